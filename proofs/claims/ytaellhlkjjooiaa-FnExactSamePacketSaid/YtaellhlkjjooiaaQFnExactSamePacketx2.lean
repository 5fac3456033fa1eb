-- MADE BY PROGRAM (qprint.py): walks of the functions that the law FnExactSamePacket reaches. Lean checks it.
import Derived.Test.YtaellhlkjjooiaaQFnExactSamePacketx0
import Derived.Test.YtaellhlkjjooiaaQFnExactSamePacketx1
namespace Go.Proofs.Ytaellhlkjjooiaa.QFnExactSamePacket
open Go.RowKit Go.Proofs.YtaellhlkjjooiaaW.PrintWords Go.Proofs.YtaellhlkjjooiaaW.PrintLast Go.Proofs.YtaellhlkjjooiaaW.PrintMore
open Go.Proofs.YtaellhlkjjooiaaW.PrintWords renaming blk_drewN → bN, blk_drew → bd, blk_alloc → ba, blk_cell → bc, blk_frozen → bf, below_set → bs, pw_below_drewN → pN, below_drew1 → p1, below_alloc → pa, blk_below → bb, below_size → bz, below_step → bp, blk_lt → bl, blk_far → bq
open Go.Proofs.YtaellhlkjjooiaaW.PrintWords.Kd renaming R_drewN → rN, R_drew → rd1, R_alloc → ra, R_far → rf, R_below → rb, R_new' → rn, R_lt → rl, R_elder' → re, R_lower → rw1, C_alloc → ca, C_drewN → cN, C_drew → cd1
open Go.Proofs.YtaellhlkjjooiaaW.PrintWords.Aside0 renaming mk → am
open Go.Value renaming int → I, slice → J
open Go.IntKind renaming i64 → q
attribute [local go_sem] max2_int min2_int max_two min_two max_three min_three max_four min_four   -- for this text's walks alone
set_option linter.unusedVariables false
set_option linter.unusedSimpArgs false

/-! ### laws_FnExactSamePacket: function 3 -/
def laws_FnExactSamePacket.f (k : Nat) (aa0 : Int) (aa1 : Int) (aa2 : Int) (aa3 : Int) (aa4 : Int) (la5 : List Int) (ab0 : Int) (ab1 : Int) (ab2 : Int) (ab3 : Int) (ab4 : Int) (lb5 : List Int) : Option (Bool) := (laws_szPacket.f aa0 aa1 aa2 aa3 aa4 la5 1048576).bind fun t129 => (if t129 < 0 then (some true) else ((laws_szPacket.f ab0 ab1 ab2 ab3 ab4 lb5 t129).bind fun t130 => (if t130 < 0 then (some true) else ((laws_toPacket.f k aa0 aa1 aa2 aa3 aa4 la5).bind fun bt131 => ((laws_toPacket.f k ab0 ab1 ab2 ab3 ab4 lb5).bind fun bt139 => ((spec_SamePacket.f bt131.1 bt131.2.1 bt131.2.2.1 bt131.2.2.2.1 bt131.2.2.2.2.1 bt131.2.2.2.2.2 bt139.1 bt139.2.1 bt139.2.2.1 bt139.2.2.2.1 bt139.2.2.2.2.1 bt139.2.2.2.2.2).bind fun t147 => ((laws_toPacket.f k aa0 aa1 aa2 aa3 aa4 la5).bind fun bt148 => ((laws_toPacket.f k ab0 ab1 ab2 ab3 ab4 lb5).bind fun bt157 => ((impl_SamePacket.f bt148.1 bt148.2.1 bt148.2.2.1 bt148.2.2.2.1 bt148.2.2.2.2.1 bt148.2.2.2.2.2 bt157.1 bt157.2.1 bt157.2.2.1 bt157.2.2.2.1 bt157.2.2.2.2.1 bt157.2.2.2.2.2).bind fun t166 => (if (t166 != t147) = true then (some false) else ((laws_toPacket.f k aa0 aa1 aa2 aa3 aa4 la5).bind fun bt167 => ((laws_eqPacket.f k bt148.1 bt148.2.1 bt148.2.2.1 bt148.2.2.2.1 bt148.2.2.2.2.1 bt148.2.2.2.2.2 bt167.1 bt167.2.1 bt167.2.2.1 bt167.2.2.2.1 bt167.2.2.2.2.1 bt167.2.2.2.2.2).bind fun t175 => (if t175 = true then ((laws_toPacket.f k ab0 ab1 ab2 ab3 ab4 lb5).bind fun bt176 => ((laws_eqPacket.f k bt157.1 bt157.2.1 bt157.2.2.1 bt157.2.2.2.1 bt157.2.2.2.2.1 bt157.2.2.2.2.2 bt176.1 bt176.2.1 bt176.2.2.1 bt176.2.2.2.1 bt176.2.2.2.2.1 bt176.2.2.2.2.2).bind fun t184 => (if t184 = true then (some true) else (some false)))) else (some false))))))))))))))
theorem laws_FnExactSamePacket.mono : ∀ a0 a1 a2 a3 a4 a5 a6 a7 a8 a9 a10 a11 k, LeO (laws_FnExactSamePacket.f k a0 a1 a2 a3 a4 a5 a6 a7 a8 a9 a10 a11) (laws_FnExactSamePacket.f (k + 1) a0 a1 a2 a3 a4 a5 a6 a7 a8 a9 a10 a11) := by
  intro a0 a1 a2 a3 a4 a5 a6 a7 a8 a9 a10 a11 k
  unfold laws_FnExactSamePacket.f
  repeat' first
      | (with_reducible exact laws_eqPacket.mono _ _ _ _ _ _ _ _ _ _ _ _ _)
      | (with_reducible exact laws_toPacket.mono _ _ _ _ _ _ _)
      | (with_reducible exact LeO.refl _)
      | (with_reducible exact LeO.none _)
      | (with_reducible refine LeO.ite ?_ ?_)
      | (with_reducible refine LeO.bind ?_ (fun _ => ?_))
      | exact laws_eqPacket.mono _ _ _ _ _ _ _ _ _ _ _ _ _
      | exact laws_toPacket.mono _ _ _ _ _ _ _
      | exact LeO.none _
      | refine LeO.ite ?_ ?_
      | refine LeO.bind ?_ (fun _ => ?_)
set_option maxHeartbeats 8000000 in
set_option maxRecDepth 100000 in
theorem laws_FnExactSamePacket.calls (k : Nat) (aa0 : Int) (aa1 : Int) (aa2 : Int) (aa3 : Int) (aa4 : Int) (Aa5 : Option Addr) (ca5 : Nat) (la5 : List Int) (ab0 : Int) (ab1 : Int) (ab2 : Int) (ab3 : Int) (ab4 : Int) (Ab5 : Option Addr) (cb5 : Nat) (lb5 : List Int) (r : Bool) (w : World) (hr0_5 : Kd.C (Kd.int .u8) w Aa5 la5.length la5) (hc0_5 : la5.length ≤ ca5) (hr1_5 : Kd.C (Kd.int .u8) w Ab5 lb5.length lb5) (hc1_5 : lb5.length ≤ cb5) (h : laws_FnExactSamePacket.f k aa0 aa1 aa2 aa3 aa4 la5 ab0 ab1 ab2 ab3 ab4 lb5 = some r) :
    Calls Try.prog 3 #[.agg #[I q aa0, I q aa1, I q aa2, I q aa3, I q aa4, J Aa5 la5.length ca5], .agg #[I q ab0, I q ab1, I q ab2, I q ab3, I q ab4, J Ab5 lb5.length cb5]] w fun e w' => e = .returned (.bool r) ∧ Below w.heap.size w w' := by
  have hu24 := Try.underlying24
  have hu27 := Try.underlying27
  have HR0_5 := am hr0_5
  have HC0_5 := am hc0_5
  clear hr0_5 hc0_5
  have HR1_5 := am hr1_5
  have HC1_5 := am hc1_5
  clear hr1_5 hc1_5
  have HB := am (Below.refl w.heap.size w)
  have H : ((laws_szPacket.f aa0 aa1 aa2 aa3 aa4 la5 1048576).bind fun t129 => (if t129 < 0 then (some true) else ((laws_szPacket.f ab0 ab1 ab2 ab3 ab4 lb5 t129).bind fun t130 => (if t130 < 0 then (some true) else ((laws_toPacket.f k aa0 aa1 aa2 aa3 aa4 la5).bind fun bt131 => ((laws_toPacket.f k ab0 ab1 ab2 ab3 ab4 lb5).bind fun bt139 => ((spec_SamePacket.f bt131.1 bt131.2.1 bt131.2.2.1 bt131.2.2.2.1 bt131.2.2.2.2.1 bt131.2.2.2.2.2 bt139.1 bt139.2.1 bt139.2.2.1 bt139.2.2.2.1 bt139.2.2.2.2.1 bt139.2.2.2.2.2).bind fun t147 => ((laws_toPacket.f k aa0 aa1 aa2 aa3 aa4 la5).bind fun bt148 => ((laws_toPacket.f k ab0 ab1 ab2 ab3 ab4 lb5).bind fun bt157 => ((impl_SamePacket.f bt148.1 bt148.2.1 bt148.2.2.1 bt148.2.2.2.1 bt148.2.2.2.2.1 bt148.2.2.2.2.2 bt157.1 bt157.2.1 bt157.2.2.1 bt157.2.2.2.1 bt157.2.2.2.2.1 bt157.2.2.2.2.2).bind fun t166 => (if (t166 != t147) = true then (some false) else ((laws_toPacket.f k aa0 aa1 aa2 aa3 aa4 la5).bind fun bt167 => ((laws_eqPacket.f k bt148.1 bt148.2.1 bt148.2.2.1 bt148.2.2.2.1 bt148.2.2.2.2.1 bt148.2.2.2.2.2 bt167.1 bt167.2.1 bt167.2.2.1 bt167.2.2.2.1 bt167.2.2.2.2.1 bt167.2.2.2.2.2).bind fun t175 => (if t175 = true then ((laws_toPacket.f k ab0 ab1 ab2 ab3 ab4 lb5).bind fun bt176 => ((laws_eqPacket.f k bt157.1 bt157.2.1 bt157.2.2.1 bt157.2.2.2.1 bt157.2.2.2.2.1 bt157.2.2.2.2.2 bt176.1 bt176.2.1 bt176.2.2.1 bt176.2.2.2.1 bt176.2.2.2.2.1 bt176.2.2.2.2.2).bind fun t184 => (if t184 = true then (some true) else (some false)))) else (some false))))))))))))))) = some r := h
  clear h
  replace H := Option.bind_eq_some_iff.mp H
  obtain ⟨t129, A30, H⟩ := H
  replace H : (if t129 < 0 then (some true) else ((laws_szPacket.f ab0 ab1 ab2 ab3 ab4 lb5 t129).bind fun t130 => (if t130 < 0 then (some true) else ((laws_toPacket.f k aa0 aa1 aa2 aa3 aa4 la5).bind fun bt131 => ((laws_toPacket.f k ab0 ab1 ab2 ab3 ab4 lb5).bind fun bt139 => ((spec_SamePacket.f bt131.1 bt131.2.1 bt131.2.2.1 bt131.2.2.2.1 bt131.2.2.2.2.1 bt131.2.2.2.2.2 bt139.1 bt139.2.1 bt139.2.2.1 bt139.2.2.2.1 bt139.2.2.2.2.1 bt139.2.2.2.2.2).bind fun t147 => ((laws_toPacket.f k aa0 aa1 aa2 aa3 aa4 la5).bind fun bt148 => ((laws_toPacket.f k ab0 ab1 ab2 ab3 ab4 lb5).bind fun bt157 => ((impl_SamePacket.f bt148.1 bt148.2.1 bt148.2.2.1 bt148.2.2.2.1 bt148.2.2.2.2.1 bt148.2.2.2.2.2 bt157.1 bt157.2.1 bt157.2.2.1 bt157.2.2.2.1 bt157.2.2.2.2.1 bt157.2.2.2.2.2).bind fun t166 => (if (t166 != t147) = true then (some false) else ((laws_toPacket.f k aa0 aa1 aa2 aa3 aa4 la5).bind fun bt167 => ((laws_eqPacket.f k bt148.1 bt148.2.1 bt148.2.2.1 bt148.2.2.2.1 bt148.2.2.2.2.1 bt148.2.2.2.2.2 bt167.1 bt167.2.1 bt167.2.2.1 bt167.2.2.2.1 bt167.2.2.2.2.1 bt167.2.2.2.2.2).bind fun t175 => (if t175 = true then ((laws_toPacket.f k ab0 ab1 ab2 ab3 ab4 lb5).bind fun bt176 => ((laws_eqPacket.f k bt157.1 bt157.2.1 bt157.2.2.1 bt157.2.2.2.1 bt157.2.2.2.2.1 bt157.2.2.2.2.2 bt176.1 bt176.2.1 bt176.2.2.1 bt176.2.2.2.1 bt176.2.2.2.2.1 bt176.2.2.2.2.2).bind fun t184 => (if t184 = true then (some true) else (some false)))) else (some false)))))))))))))) = some r := H
  have A3 := am A30
  clear A30
  by_cases c4 : t129 < 0
  · rw [if_pos c4] at H
    have c4b0 : decide (t129 < 0) = true := decide_eq_true c4
    clear c4
    obtain rfl := Option.some.inj H
    go_enter Try.func3, Try.ntmps3
    go_wp2_with (first | ((with_reducible refine gate_dst (N := 2) rfl ?_); refine box_event ?hg (N := 2) ?hd (cs := #[I q aa0, I q aa1, I q aa2, I q aa3, I q aa4, J Aa5 la5.length ca5]) (t := 24) ?hr ?_; (case hd => rfl); (case hg => rfl); (case hr => first | (go_simp; done) | (go_simp; rfl)); intro g127 hg w5 hbox hb; have N0 := am (bp (by repeat (first | (with_reducible first | exact HB.out | apply pa | apply pN | apply p1) | exact HB.out)) hb); have N1 := am (hbox); have N2 := am ((by rw [hg]; exact (bz (by repeat (first | (with_reducible first | exact HB.out | apply pa | apply pN | apply p1) | exact HB.out))) : w.heap.size ≤ g127)); have N3 := am ((by rw [hg]; exact (bz (by repeat (first | (with_reducible first | exact HB.out | apply pa | apply pN | apply p1) | exact HB.out))) : w.heap.size ≤ g127)); clear HB; have HB := N0; have B127 := N1; have GW127 := N2; have E127 := N3; clear N0 N1 N2 N3 hb hbox hg) | ((with_reducible refine gate_dst (N := 3) rfl ?_); refine box_event ?hg (N := 3) ?hd (cs := #[I q ab0, I q ab1, I q ab2, I q ab3, I q ab4, J Ab5 lb5.length cb5]) (t := 24) ?hr ?_; (case hd => rfl); (case hg => rfl); (case hr => first | (go_simp; done) | (go_simp; rfl)); intro g128 hg w6 hbox hb; have N0 := am (bb (g := g127) (o := .cells #[I q aa0, I q aa1, I q aa2, I q aa3, I q aa4, J Aa5 la5.length ca5] 24 (0, 0)) (by (with_reducible repeat (first | apply bN | apply bd | apply ba)); exact B127.out) hb); have N1 := am (bp (by repeat (first | (with_reducible first | exact HB.out | apply pa | apply pN | apply p1 | refine bs ?_ E127.out) | exact HB.out)) hb); have N2 := am (hbox); have N3 := am ((by rw [hg]; exact (bz (by repeat (first | (with_reducible first | exact HB.out | apply pa | apply pN | apply p1 | refine bs ?_ E127.out) | exact HB.out))) : w.heap.size ≤ g128)); have N4 := am ((by rw [hg]; exact (bz (by repeat (first | (with_reducible first | exact HB.out | apply pa | apply pN | apply p1 | refine bs ?_ E127.out) | exact HB.out))) : w.heap.size ≤ g128)); have N5 := am ((by rw [hg]; exact Nat.ne_of_lt (bl (g := g127) (o := .cells #[I q aa0, I q aa1, I q aa2, I q aa3, I q aa4, J Aa5 la5.length ca5] 24 (0, 0)) (by (with_reducible repeat (first | apply bN | apply bd | apply ba)); exact B127.out)) : g127 ≠ g128)); have N6 := am ((by rw [hg]; exact Nat.ne_of_gt (bl (g := g127) (o := .cells #[I q aa0, I q aa1, I q aa2, I q aa3, I q aa4, J Aa5 la5.length ca5] 24 (0, 0)) (by (with_reducible repeat (first | apply bN | apply bd | apply ba)); exact B127.out)) : g128 ≠ g127)); clear B127 HB; have B127 := N0; have HB := N1; have B128 := N2; have GW128 := N3; have E128 := N4; have NB127_128 := N5; have NB128_127 := N6; clear N0 N1 N2 N3 N4 N5 N6 hb hbox hg; have hnb7 := NB127_128.out; have hnc7 := NB128_127.out; have hcz8_0 : w6.cell? ⟨g127, 0, none⟩ = some (I q aa0) := (bc B127.out 0).trans rfl; have hcz8_1 : w6.cell? ⟨g127, 1, none⟩ = some (I q aa1) := (bc B127.out 1).trans rfl; have hcz8_2 : w6.cell? ⟨g127, 2, none⟩ = some (I q aa2) := (bc B127.out 2).trans rfl; have hcz8_3 : w6.cell? ⟨g127, 3, none⟩ = some (I q aa3) := (bc B127.out 3).trans rfl; have hcz8_4 : w6.cell? ⟨g127, 4, none⟩ = some (I q aa4) := (bc B127.out 4).trans rfl; have hcz8_5 : w6.cell? ⟨g127, 5, none⟩ = some (J Aa5 la5.length ca5) := (bc B127.out 5).trans rfl; have hfz8_0 := bf B127.out 0; have hfz8_1 := bf B127.out 1; have hfz8_2 := bf B127.out 2; have hfz8_3 := bf B127.out 3; have hfz8_4 := bf B127.out 4; have hfz8_5 := bf B127.out 5) | ((with_reducible refine gate_callee (f := 15) rfl ?_); refine goesL_ (some 12) rfl rfl Try.func15 (by kernel_rfl) rfl #[.agg #[I q aa0, I q aa1, I q aa2, I q aa3, I q aa4, J Aa5 la5.length ca5], I q 1048576] rfl (by (try simp only [List.map_toArray, List.map_cons, List.map_nil]); first | done | rfl | (simp only [List.length_drop, List.length_take]; rfl)) ?_; (with_reducible refine (laws_szPacket.calls aa0 aa1 aa2 aa3 aa4 _ _ la5 1048576 t129 _ ?side1 ?side2 A3.out).mono ?_); (case side1 => repeat (first | exact (Kd.C_below HR0_5.out HB.out) | (with_reducible refine ca ?_ _) | (with_reducible refine cN ?_ _) | (with_reducible refine cd1 ?_))); (case side2 => exact HC0_5.out); rintro e w9 ⟨rfl, hb⟩; refine ⟨_, rfl, ?_⟩; have N0 := am (bb (g := g127) (o := .cells #[I q aa0, I q aa1, I q aa2, I q aa3, I q aa4, J Aa5 la5.length ca5] 24 (0, 0)) (by (with_reducible repeat (first | apply bN | apply bd | apply ba)); exact B127.out) hb); have N1 := am (bb (g := g128) (o := .cells #[I q ab0, I q ab1, I q ab2, I q ab3, I q ab4, J Ab5 lb5.length cb5] 24 (0, 0)) (by (with_reducible repeat (first | apply bN | apply bd | apply ba)); exact B128.out) hb); have N2 := am (bp (by repeat (first | (with_reducible first | exact HB.out | apply pa | apply pN | apply p1 | refine bs ?_ E127.out | refine bs ?_ E128.out) | exact HB.out)) hb); clear B127 B128 HB; have B127 := N0; have B128 := N1; have HB := N2; clear N0 N1 N2; (try clear hb); (try clear hb2); (try clear hk); (try clear hi)))
    go_ret
    exact ⟨by first | rfl | (simp [errW_none, errW_some] <;> rfl) | (simp [*, errW_none, errW_some] <;> rfl), by repeat (first | (with_reducible first | exact HB.out | apply pa | apply pN | apply p1 | refine bs ?_ E127.out | refine bs ?_ E128.out) | exact HB.out)⟩
  · rw [if_neg c4] at H
    have c4b0 : decide (t129 < 0) = false := decide_eq_false c4
    clear c4
    replace H := Option.bind_eq_some_iff.mp H
    obtain ⟨t130, A100, H⟩ := H
    replace H : (if t130 < 0 then (some true) else ((laws_toPacket.f k aa0 aa1 aa2 aa3 aa4 la5).bind fun bt131 => ((laws_toPacket.f k ab0 ab1 ab2 ab3 ab4 lb5).bind fun bt139 => ((spec_SamePacket.f bt131.1 bt131.2.1 bt131.2.2.1 bt131.2.2.2.1 bt131.2.2.2.2.1 bt131.2.2.2.2.2 bt139.1 bt139.2.1 bt139.2.2.1 bt139.2.2.2.1 bt139.2.2.2.2.1 bt139.2.2.2.2.2).bind fun t147 => ((laws_toPacket.f k aa0 aa1 aa2 aa3 aa4 la5).bind fun bt148 => ((laws_toPacket.f k ab0 ab1 ab2 ab3 ab4 lb5).bind fun bt157 => ((impl_SamePacket.f bt148.1 bt148.2.1 bt148.2.2.1 bt148.2.2.2.1 bt148.2.2.2.2.1 bt148.2.2.2.2.2 bt157.1 bt157.2.1 bt157.2.2.1 bt157.2.2.2.1 bt157.2.2.2.2.1 bt157.2.2.2.2.2).bind fun t166 => (if (t166 != t147) = true then (some false) else ((laws_toPacket.f k aa0 aa1 aa2 aa3 aa4 la5).bind fun bt167 => ((laws_eqPacket.f k bt148.1 bt148.2.1 bt148.2.2.1 bt148.2.2.2.1 bt148.2.2.2.2.1 bt148.2.2.2.2.2 bt167.1 bt167.2.1 bt167.2.2.1 bt167.2.2.2.1 bt167.2.2.2.2.1 bt167.2.2.2.2.2).bind fun t175 => (if t175 = true then ((laws_toPacket.f k ab0 ab1 ab2 ab3 ab4 lb5).bind fun bt176 => ((laws_eqPacket.f k bt157.1 bt157.2.1 bt157.2.2.1 bt157.2.2.2.1 bt157.2.2.2.2.1 bt157.2.2.2.2.2 bt176.1 bt176.2.1 bt176.2.2.1 bt176.2.2.2.1 bt176.2.2.2.2.1 bt176.2.2.2.2.2).bind fun t184 => (if t184 = true then (some true) else (some false)))) else (some false)))))))))))) = some r := H
    have A10 := am A100
    clear A100
    by_cases c11 : t130 < 0
    · rw [if_pos c11] at H
      have c11b0 : decide (t130 < 0) = true := decide_eq_true c11
      clear c11
      obtain rfl := Option.some.inj H
      go_enter Try.func3, Try.ntmps3
      go_wp2_with (first | ((with_reducible refine gate_dst (N := 2) rfl ?_); refine box_event ?hg (N := 2) ?hd (cs := #[I q aa0, I q aa1, I q aa2, I q aa3, I q aa4, J Aa5 la5.length ca5]) (t := 24) ?hr ?_; (case hd => rfl); (case hg => rfl); (case hr => first | (go_simp; done) | (go_simp; rfl)); intro g127 hg w12 hbox hb; have N0 := am (bp (by repeat (first | (with_reducible first | exact HB.out | apply pa | apply pN | apply p1) | exact HB.out)) hb); have N1 := am (hbox); have N2 := am ((by rw [hg]; exact (bz (by repeat (first | (with_reducible first | exact HB.out | apply pa | apply pN | apply p1) | exact HB.out))) : w.heap.size ≤ g127)); have N3 := am ((by rw [hg]; exact (bz (by repeat (first | (with_reducible first | exact HB.out | apply pa | apply pN | apply p1) | exact HB.out))) : w.heap.size ≤ g127)); clear HB; have HB := N0; have B127 := N1; have GW127 := N2; have E127 := N3; clear N0 N1 N2 N3 hb hbox hg) | ((with_reducible refine gate_dst (N := 3) rfl ?_); refine box_event ?hg (N := 3) ?hd (cs := #[I q ab0, I q ab1, I q ab2, I q ab3, I q ab4, J Ab5 lb5.length cb5]) (t := 24) ?hr ?_; (case hd => rfl); (case hg => rfl); (case hr => first | (go_simp; done) | (go_simp; rfl)); intro g128 hg w13 hbox hb; have N0 := am (bb (g := g127) (o := .cells #[I q aa0, I q aa1, I q aa2, I q aa3, I q aa4, J Aa5 la5.length ca5] 24 (0, 0)) (by (with_reducible repeat (first | apply bN | apply bd | apply ba)); exact B127.out) hb); have N1 := am (bp (by repeat (first | (with_reducible first | exact HB.out | apply pa | apply pN | apply p1 | refine bs ?_ E127.out) | exact HB.out)) hb); have N2 := am (hbox); have N3 := am ((by rw [hg]; exact (bz (by repeat (first | (with_reducible first | exact HB.out | apply pa | apply pN | apply p1 | refine bs ?_ E127.out) | exact HB.out))) : w.heap.size ≤ g128)); have N4 := am ((by rw [hg]; exact (bz (by repeat (first | (with_reducible first | exact HB.out | apply pa | apply pN | apply p1 | refine bs ?_ E127.out) | exact HB.out))) : w.heap.size ≤ g128)); have N5 := am ((by rw [hg]; exact Nat.ne_of_lt (bl (g := g127) (o := .cells #[I q aa0, I q aa1, I q aa2, I q aa3, I q aa4, J Aa5 la5.length ca5] 24 (0, 0)) (by (with_reducible repeat (first | apply bN | apply bd | apply ba)); exact B127.out)) : g127 ≠ g128)); have N6 := am ((by rw [hg]; exact Nat.ne_of_gt (bl (g := g127) (o := .cells #[I q aa0, I q aa1, I q aa2, I q aa3, I q aa4, J Aa5 la5.length ca5] 24 (0, 0)) (by (with_reducible repeat (first | apply bN | apply bd | apply ba)); exact B127.out)) : g128 ≠ g127)); clear B127 HB; have B127 := N0; have HB := N1; have B128 := N2; have GW128 := N3; have E128 := N4; have NB127_128 := N5; have NB128_127 := N6; clear N0 N1 N2 N3 N4 N5 N6 hb hbox hg; have hnb14 := NB127_128.out; have hnc14 := NB128_127.out; have hcz15_0 : w13.cell? ⟨g127, 0, none⟩ = some (I q aa0) := (bc B127.out 0).trans rfl; have hcz15_1 : w13.cell? ⟨g127, 1, none⟩ = some (I q aa1) := (bc B127.out 1).trans rfl; have hcz15_2 : w13.cell? ⟨g127, 2, none⟩ = some (I q aa2) := (bc B127.out 2).trans rfl; have hcz15_3 : w13.cell? ⟨g127, 3, none⟩ = some (I q aa3) := (bc B127.out 3).trans rfl; have hcz15_4 : w13.cell? ⟨g127, 4, none⟩ = some (I q aa4) := (bc B127.out 4).trans rfl; have hcz15_5 : w13.cell? ⟨g127, 5, none⟩ = some (J Aa5 la5.length ca5) := (bc B127.out 5).trans rfl; have hfz15_0 := bf B127.out 0; have hfz15_1 := bf B127.out 1; have hfz15_2 := bf B127.out 2; have hfz15_3 := bf B127.out 3; have hfz15_4 := bf B127.out 4; have hfz15_5 := bf B127.out 5) | ((with_reducible refine gate_callee (f := 15) rfl ?_); refine goesL_ (some 12) rfl rfl Try.func15 (by kernel_rfl) rfl #[.agg #[I q aa0, I q aa1, I q aa2, I q aa3, I q aa4, J Aa5 la5.length ca5], I q 1048576] rfl (by (try simp only [List.map_toArray, List.map_cons, List.map_nil]); first | done | rfl | (simp only [List.length_drop, List.length_take]; rfl)) ?_; (with_reducible refine (laws_szPacket.calls aa0 aa1 aa2 aa3 aa4 _ _ la5 1048576 t129 _ ?side1 ?side2 A3.out).mono ?_); (case side1 => repeat (first | exact (Kd.C_below HR0_5.out HB.out) | (with_reducible refine ca ?_ _) | (with_reducible refine cN ?_ _) | (with_reducible refine cd1 ?_))); (case side2 => exact HC0_5.out); rintro e w16 ⟨rfl, hb⟩; refine ⟨_, rfl, ?_⟩; have N0 := am (bb (g := g127) (o := .cells #[I q aa0, I q aa1, I q aa2, I q aa3, I q aa4, J Aa5 la5.length ca5] 24 (0, 0)) (by (with_reducible repeat (first | apply bN | apply bd | apply ba)); exact B127.out) hb); have N1 := am (bb (g := g128) (o := .cells #[I q ab0, I q ab1, I q ab2, I q ab3, I q ab4, J Ab5 lb5.length cb5] 24 (0, 0)) (by (with_reducible repeat (first | apply bN | apply bd | apply ba)); exact B128.out) hb); have N2 := am (bp (by repeat (first | (with_reducible first | exact HB.out | apply pa | apply pN | apply p1 | refine bs ?_ E127.out | refine bs ?_ E128.out) | exact HB.out)) hb); clear B127 B128 HB; have B127 := N0; have B128 := N1; have HB := N2; clear N0 N1 N2; (try clear hb); (try clear hb2); (try clear hk); (try clear hi); have hcz17_0 : w16.cell? ⟨g128, 0, none⟩ = some (I q ab0) := (bc B128.out 0).trans rfl; have hcz17_1 : w16.cell? ⟨g128, 1, none⟩ = some (I q ab1) := (bc B128.out 1).trans rfl; have hcz17_2 : w16.cell? ⟨g128, 2, none⟩ = some (I q ab2) := (bc B128.out 2).trans rfl; have hcz17_3 : w16.cell? ⟨g128, 3, none⟩ = some (I q ab3) := (bc B128.out 3).trans rfl; have hcz17_4 : w16.cell? ⟨g128, 4, none⟩ = some (I q ab4) := (bc B128.out 4).trans rfl; have hcz17_5 : w16.cell? ⟨g128, 5, none⟩ = some (J Ab5 lb5.length cb5) := (bc B128.out 5).trans rfl; have hfz17_0 := bf B128.out 0; have hfz17_1 := bf B128.out 1; have hfz17_2 := bf B128.out 2; have hfz17_3 := bf B128.out 3; have hfz17_4 := bf B128.out 4; have hfz17_5 := bf B128.out 5) | ((with_reducible refine gate_callee (f := 15) rfl ?_); refine goesL_ (some 17) rfl rfl Try.func15 (by kernel_rfl) rfl #[.agg #[I q ab0, I q ab1, I q ab2, I q ab3, I q ab4, J Ab5 lb5.length cb5], I q t129] rfl (by (try simp only [List.map_toArray, List.map_cons, List.map_nil]); first | done | rfl | (simp only [List.length_drop, List.length_take]; rfl)) ?_; (with_reducible refine (laws_szPacket.calls ab0 ab1 ab2 ab3 ab4 _ _ lb5 t129 t130 _ ?side1 ?side2 A10.out).mono ?_); (case side1 => repeat (first | exact (Kd.C_below HR1_5.out HB.out) | (with_reducible refine ca ?_ _) | (with_reducible refine cN ?_ _) | (with_reducible refine cd1 ?_))); (case side2 => exact HC1_5.out); rintro e w18 ⟨rfl, hb⟩; refine ⟨_, rfl, ?_⟩; have N0 := am (bb (g := g127) (o := .cells #[I q aa0, I q aa1, I q aa2, I q aa3, I q aa4, J Aa5 la5.length ca5] 24 (0, 0)) (by (with_reducible repeat (first | apply bN | apply bd | apply ba)); exact B127.out) hb); have N1 := am (bb (g := g128) (o := .cells #[I q ab0, I q ab1, I q ab2, I q ab3, I q ab4, J Ab5 lb5.length cb5] 24 (0, 0)) (by (with_reducible repeat (first | apply bN | apply bd | apply ba)); exact B128.out) hb); have N2 := am (bp (by repeat (first | (with_reducible first | exact HB.out | apply pa | apply pN | apply p1 | refine bs ?_ E127.out | refine bs ?_ E128.out) | exact HB.out)) hb); clear B127 B128 HB; have B127 := N0; have B128 := N1; have HB := N2; clear N0 N1 N2; (try clear hb); (try clear hb2); (try clear hk); (try clear hi)))
      go_ret
      exact ⟨by first | rfl | (simp [errW_none, errW_some] <;> rfl) | (simp [*, errW_none, errW_some] <;> rfl), by repeat (first | (with_reducible first | exact HB.out | apply pa | apply pN | apply p1 | refine bs ?_ E127.out | refine bs ?_ E128.out) | exact HB.out)⟩
    · rw [if_neg c11] at H
      have c11b0 : decide (t130 < 0) = false := decide_eq_false c11
      clear c11
      replace H := Option.bind_eq_some_iff.mp H
      obtain ⟨⟨t131, t132, t133, t134, t135, t136⟩, A190, H⟩ := H
      replace H : ((laws_toPacket.f k ab0 ab1 ab2 ab3 ab4 lb5).bind fun bt139 => ((spec_SamePacket.f t131 t132 t133 t134 t135 t136 bt139.1 bt139.2.1 bt139.2.2.1 bt139.2.2.2.1 bt139.2.2.2.2.1 bt139.2.2.2.2.2).bind fun t147 => ((laws_toPacket.f k aa0 aa1 aa2 aa3 aa4 la5).bind fun bt148 => ((laws_toPacket.f k ab0 ab1 ab2 ab3 ab4 lb5).bind fun bt157 => ((impl_SamePacket.f bt148.1 bt148.2.1 bt148.2.2.1 bt148.2.2.2.1 bt148.2.2.2.2.1 bt148.2.2.2.2.2 bt157.1 bt157.2.1 bt157.2.2.1 bt157.2.2.2.1 bt157.2.2.2.2.1 bt157.2.2.2.2.2).bind fun t166 => (if (t166 != t147) = true then (some false) else ((laws_toPacket.f k aa0 aa1 aa2 aa3 aa4 la5).bind fun bt167 => ((laws_eqPacket.f k bt148.1 bt148.2.1 bt148.2.2.1 bt148.2.2.2.1 bt148.2.2.2.2.1 bt148.2.2.2.2.2 bt167.1 bt167.2.1 bt167.2.2.1 bt167.2.2.2.1 bt167.2.2.2.2.1 bt167.2.2.2.2.2).bind fun t175 => (if t175 = true then ((laws_toPacket.f k ab0 ab1 ab2 ab3 ab4 lb5).bind fun bt176 => ((laws_eqPacket.f k bt157.1 bt157.2.1 bt157.2.2.1 bt157.2.2.2.1 bt157.2.2.2.2.1 bt157.2.2.2.2.2 bt176.1 bt176.2.1 bt176.2.2.1 bt176.2.2.2.1 bt176.2.2.2.2.1 bt176.2.2.2.2.2).bind fun t184 => (if t184 = true then (some true) else (some false)))) else (some false)))))))))) = some r := H
      have A19 := am A190
      clear A190
      replace H := Option.bind_eq_some_iff.mp H
      obtain ⟨⟨t139, t140, t141, t142, t143, t144⟩, A200, H⟩ := H
      replace H : ((spec_SamePacket.f t131 t132 t133 t134 t135 t136 t139 t140 t141 t142 t143 t144).bind fun t147 => ((laws_toPacket.f k aa0 aa1 aa2 aa3 aa4 la5).bind fun bt148 => ((laws_toPacket.f k ab0 ab1 ab2 ab3 ab4 lb5).bind fun bt157 => ((impl_SamePacket.f bt148.1 bt148.2.1 bt148.2.2.1 bt148.2.2.2.1 bt148.2.2.2.2.1 bt148.2.2.2.2.2 bt157.1 bt157.2.1 bt157.2.2.1 bt157.2.2.2.1 bt157.2.2.2.2.1 bt157.2.2.2.2.2).bind fun t166 => (if (t166 != t147) = true then (some false) else ((laws_toPacket.f k aa0 aa1 aa2 aa3 aa4 la5).bind fun bt167 => ((laws_eqPacket.f k bt148.1 bt148.2.1 bt148.2.2.1 bt148.2.2.2.1 bt148.2.2.2.2.1 bt148.2.2.2.2.2 bt167.1 bt167.2.1 bt167.2.2.1 bt167.2.2.2.1 bt167.2.2.2.2.1 bt167.2.2.2.2.2).bind fun t175 => (if t175 = true then ((laws_toPacket.f k ab0 ab1 ab2 ab3 ab4 lb5).bind fun bt176 => ((laws_eqPacket.f k bt157.1 bt157.2.1 bt157.2.2.1 bt157.2.2.2.1 bt157.2.2.2.2.1 bt157.2.2.2.2.2 bt176.1 bt176.2.1 bt176.2.2.1 bt176.2.2.2.1 bt176.2.2.2.2.1 bt176.2.2.2.2.2).bind fun t184 => (if t184 = true then (some true) else (some false)))) else (some false))))))))) = some r := H
      have A20 := am A200
      clear A200
      replace H := Option.bind_eq_some_iff.mp H
      obtain ⟨t147, A210, H⟩ := H
      replace H : ((laws_toPacket.f k aa0 aa1 aa2 aa3 aa4 la5).bind fun bt148 => ((laws_toPacket.f k ab0 ab1 ab2 ab3 ab4 lb5).bind fun bt157 => ((impl_SamePacket.f bt148.1 bt148.2.1 bt148.2.2.1 bt148.2.2.2.1 bt148.2.2.2.2.1 bt148.2.2.2.2.2 bt157.1 bt157.2.1 bt157.2.2.1 bt157.2.2.2.1 bt157.2.2.2.2.1 bt157.2.2.2.2.2).bind fun t166 => (if (t166 != t147) = true then (some false) else ((laws_toPacket.f k aa0 aa1 aa2 aa3 aa4 la5).bind fun bt167 => ((laws_eqPacket.f k bt148.1 bt148.2.1 bt148.2.2.1 bt148.2.2.2.1 bt148.2.2.2.2.1 bt148.2.2.2.2.2 bt167.1 bt167.2.1 bt167.2.2.1 bt167.2.2.2.1 bt167.2.2.2.2.1 bt167.2.2.2.2.2).bind fun t175 => (if t175 = true then ((laws_toPacket.f k ab0 ab1 ab2 ab3 ab4 lb5).bind fun bt176 => ((laws_eqPacket.f k bt157.1 bt157.2.1 bt157.2.2.1 bt157.2.2.2.1 bt157.2.2.2.2.1 bt157.2.2.2.2.2 bt176.1 bt176.2.1 bt176.2.2.1 bt176.2.2.2.1 bt176.2.2.2.2.1 bt176.2.2.2.2.2).bind fun t184 => (if t184 = true then (some true) else (some false)))) else (some false)))))))) = some r := H
      have A21 := am A210
      clear A210
      replace H := Option.bind_eq_some_iff.mp H
      obtain ⟨⟨t148, t149, t150, t151, t152, t153⟩, A220, H⟩ := H
      replace H : ((laws_toPacket.f k ab0 ab1 ab2 ab3 ab4 lb5).bind fun bt157 => ((impl_SamePacket.f t148 t149 t150 t151 t152 t153 bt157.1 bt157.2.1 bt157.2.2.1 bt157.2.2.2.1 bt157.2.2.2.2.1 bt157.2.2.2.2.2).bind fun t166 => (if (t166 != t147) = true then (some false) else ((laws_toPacket.f k aa0 aa1 aa2 aa3 aa4 la5).bind fun bt167 => ((laws_eqPacket.f k t148 t149 t150 t151 t152 t153 bt167.1 bt167.2.1 bt167.2.2.1 bt167.2.2.2.1 bt167.2.2.2.2.1 bt167.2.2.2.2.2).bind fun t175 => (if t175 = true then ((laws_toPacket.f k ab0 ab1 ab2 ab3 ab4 lb5).bind fun bt176 => ((laws_eqPacket.f k bt157.1 bt157.2.1 bt157.2.2.1 bt157.2.2.2.1 bt157.2.2.2.2.1 bt157.2.2.2.2.2 bt176.1 bt176.2.1 bt176.2.2.1 bt176.2.2.2.1 bt176.2.2.2.2.1 bt176.2.2.2.2.2).bind fun t184 => (if t184 = true then (some true) else (some false)))) else (some false))))))) = some r := H
      have A22 := am A220
      clear A220
      replace H := Option.bind_eq_some_iff.mp H
      obtain ⟨⟨t157, t158, t159, t160, t161, t162⟩, A230, H⟩ := H
      replace H : ((impl_SamePacket.f t148 t149 t150 t151 t152 t153 t157 t158 t159 t160 t161 t162).bind fun t166 => (if (t166 != t147) = true then (some false) else ((laws_toPacket.f k aa0 aa1 aa2 aa3 aa4 la5).bind fun bt167 => ((laws_eqPacket.f k t148 t149 t150 t151 t152 t153 bt167.1 bt167.2.1 bt167.2.2.1 bt167.2.2.2.1 bt167.2.2.2.2.1 bt167.2.2.2.2.2).bind fun t175 => (if t175 = true then ((laws_toPacket.f k ab0 ab1 ab2 ab3 ab4 lb5).bind fun bt176 => ((laws_eqPacket.f k t157 t158 t159 t160 t161 t162 bt176.1 bt176.2.1 bt176.2.2.1 bt176.2.2.2.1 bt176.2.2.2.2.1 bt176.2.2.2.2.2).bind fun t184 => (if t184 = true then (some true) else (some false)))) else (some false)))))) = some r := H
      have A23 := am A230
      clear A230
      replace H := Option.bind_eq_some_iff.mp H
      obtain ⟨t166, A240, H⟩ := H
      replace H : (if (t166 != t147) = true then (some false) else ((laws_toPacket.f k aa0 aa1 aa2 aa3 aa4 la5).bind fun bt167 => ((laws_eqPacket.f k t148 t149 t150 t151 t152 t153 bt167.1 bt167.2.1 bt167.2.2.1 bt167.2.2.2.1 bt167.2.2.2.2.1 bt167.2.2.2.2.2).bind fun t175 => (if t175 = true then ((laws_toPacket.f k ab0 ab1 ab2 ab3 ab4 lb5).bind fun bt176 => ((laws_eqPacket.f k t157 t158 t159 t160 t161 t162 bt176.1 bt176.2.1 bt176.2.2.1 bt176.2.2.2.1 bt176.2.2.2.2.1 bt176.2.2.2.2.2).bind fun t184 => (if t184 = true then (some true) else (some false)))) else (some false))))) = some r := H
      have A24 := am A240
      clear A240
      by_cases c25 : (t166 != t147) = true
      · rw [if_pos c25] at H
        have c25b0 : (t166 != t147) = true := c25
        (try (have c25b1 : decide (t166 = t147) = false := by simpa using c25))
        (try (have c25b2 : (t166 == t147) = false := by simpa using c25))
        (try (have c25b3 : ¬ (t166 = t147) := by simpa using c25))
        clear c25
        obtain rfl := Option.some.inj H
        go_enter Try.func3, Try.ntmps3
        try go_wp2_with (first | ((with_reducible refine gate_dst (N := 2) rfl ?_); refine box_event ?hg (N := 2) ?hd (cs := #[I q aa0, I q aa1, I q aa2, I q aa3, I q aa4, J Aa5 la5.length ca5]) (t := 24) ?hr ?_; (case hd => rfl); (case hg => rfl); (case hr => first | (go_simp; done) | (go_simp; rfl)); intro g127 hg w26 hbox hb; have N0 := am (bp (by repeat (first | (with_reducible first | exact HB.out | apply pa | apply pN | apply p1) | exact HB.out)) hb); have N1 := am (hbox); have N2 := am ((by rw [hg]; exact (bz (by repeat (first | (with_reducible first | exact HB.out | apply pa | apply pN | apply p1) | exact HB.out))) : w.heap.size ≤ g127)); have N3 := am ((by rw [hg]; exact (bz (by repeat (first | (with_reducible first | exact HB.out | apply pa | apply pN | apply p1) | exact HB.out))) : w.heap.size ≤ g127)); clear HB; have HB := N0; have B127 := N1; have GW127 := N2; have E127 := N3; clear N0 N1 N2 N3 hb hbox hg) | ((with_reducible refine gate_dst (N := 3) rfl ?_); refine box_event ?hg (N := 3) ?hd (cs := #[I q ab0, I q ab1, I q ab2, I q ab3, I q ab4, J Ab5 lb5.length cb5]) (t := 24) ?hr ?_; (case hd => rfl); (case hg => rfl); (case hr => first | (go_simp; done) | (go_simp; rfl)); intro g128 hg w27 hbox hb; have N0 := am (bb (g := g127) (o := .cells #[I q aa0, I q aa1, I q aa2, I q aa3, I q aa4, J Aa5 la5.length ca5] 24 (0, 0)) (by (with_reducible repeat (first | apply bN | apply bd | apply ba)); exact B127.out) hb); have N1 := am (bp (by repeat (first | (with_reducible first | exact HB.out | apply pa | apply pN | apply p1 | refine bs ?_ E127.out) | exact HB.out)) hb); have N2 := am (hbox); have N3 := am ((by rw [hg]; exact (bz (by repeat (first | (with_reducible first | exact HB.out | apply pa | apply pN | apply p1 | refine bs ?_ E127.out) | exact HB.out))) : w.heap.size ≤ g128)); have N4 := am ((by rw [hg]; exact (bz (by repeat (first | (with_reducible first | exact HB.out | apply pa | apply pN | apply p1 | refine bs ?_ E127.out) | exact HB.out))) : w.heap.size ≤ g128)); have N5 := am ((by rw [hg]; exact Nat.ne_of_lt (bl (g := g127) (o := .cells #[I q aa0, I q aa1, I q aa2, I q aa3, I q aa4, J Aa5 la5.length ca5] 24 (0, 0)) (by (with_reducible repeat (first | apply bN | apply bd | apply ba)); exact B127.out)) : g127 ≠ g128)); have N6 := am ((by rw [hg]; exact Nat.ne_of_gt (bl (g := g127) (o := .cells #[I q aa0, I q aa1, I q aa2, I q aa3, I q aa4, J Aa5 la5.length ca5] 24 (0, 0)) (by (with_reducible repeat (first | apply bN | apply bd | apply ba)); exact B127.out)) : g128 ≠ g127)); clear B127 HB; have B127 := N0; have HB := N1; have B128 := N2; have GW128 := N3; have E128 := N4; have NB127_128 := N5; have NB128_127 := N6; clear N0 N1 N2 N3 N4 N5 N6 hb hbox hg; have hnb28 := NB127_128.out; have hnc28 := NB128_127.out; have hcz29_0 : w27.cell? ⟨g127, 0, none⟩ = some (I q aa0) := (bc B127.out 0).trans rfl; have hcz29_1 : w27.cell? ⟨g127, 1, none⟩ = some (I q aa1) := (bc B127.out 1).trans rfl; have hcz29_2 : w27.cell? ⟨g127, 2, none⟩ = some (I q aa2) := (bc B127.out 2).trans rfl; have hcz29_3 : w27.cell? ⟨g127, 3, none⟩ = some (I q aa3) := (bc B127.out 3).trans rfl; have hcz29_4 : w27.cell? ⟨g127, 4, none⟩ = some (I q aa4) := (bc B127.out 4).trans rfl; have hcz29_5 : w27.cell? ⟨g127, 5, none⟩ = some (J Aa5 la5.length ca5) := (bc B127.out 5).trans rfl; have hfz29_0 := bf B127.out 0; have hfz29_1 := bf B127.out 1; have hfz29_2 := bf B127.out 2; have hfz29_3 := bf B127.out 3; have hfz29_4 := bf B127.out 4; have hfz29_5 := bf B127.out 5) | ((with_reducible refine gate_callee (f := 15) rfl ?_); refine goesL_ (some 12) rfl rfl Try.func15 (by kernel_rfl) rfl #[.agg #[I q aa0, I q aa1, I q aa2, I q aa3, I q aa4, J Aa5 la5.length ca5], I q 1048576] rfl (by (try simp only [List.map_toArray, List.map_cons, List.map_nil]); first | done | rfl | (simp only [List.length_drop, List.length_take]; rfl)) ?_; (with_reducible refine (laws_szPacket.calls aa0 aa1 aa2 aa3 aa4 _ _ la5 1048576 t129 _ ?side1 ?side2 A3.out).mono ?_); (case side1 => repeat (first | exact (Kd.C_below HR0_5.out HB.out) | (with_reducible refine ca ?_ _) | (with_reducible refine cN ?_ _) | (with_reducible refine cd1 ?_))); (case side2 => exact HC0_5.out); rintro e w30 ⟨rfl, hb⟩; refine ⟨_, rfl, ?_⟩; have N0 := am (bb (g := g127) (o := .cells #[I q aa0, I q aa1, I q aa2, I q aa3, I q aa4, J Aa5 la5.length ca5] 24 (0, 0)) (by (with_reducible repeat (first | apply bN | apply bd | apply ba)); exact B127.out) hb); have N1 := am (bb (g := g128) (o := .cells #[I q ab0, I q ab1, I q ab2, I q ab3, I q ab4, J Ab5 lb5.length cb5] 24 (0, 0)) (by (with_reducible repeat (first | apply bN | apply bd | apply ba)); exact B128.out) hb); have N2 := am (bp (by repeat (first | (with_reducible first | exact HB.out | apply pa | apply pN | apply p1 | refine bs ?_ E127.out | refine bs ?_ E128.out) | exact HB.out)) hb); clear B127 B128 HB; have B127 := N0; have B128 := N1; have HB := N2; clear N0 N1 N2; (try clear hb); (try clear hb2); (try clear hk); (try clear hi); have hcz31_0 : w30.cell? ⟨g128, 0, none⟩ = some (I q ab0) := (bc B128.out 0).trans rfl; have hcz31_1 : w30.cell? ⟨g128, 1, none⟩ = some (I q ab1) := (bc B128.out 1).trans rfl; have hcz31_2 : w30.cell? ⟨g128, 2, none⟩ = some (I q ab2) := (bc B128.out 2).trans rfl; have hcz31_3 : w30.cell? ⟨g128, 3, none⟩ = some (I q ab3) := (bc B128.out 3).trans rfl; have hcz31_4 : w30.cell? ⟨g128, 4, none⟩ = some (I q ab4) := (bc B128.out 4).trans rfl; have hcz31_5 : w30.cell? ⟨g128, 5, none⟩ = some (J Ab5 lb5.length cb5) := (bc B128.out 5).trans rfl; have hfz31_0 := bf B128.out 0; have hfz31_1 := bf B128.out 1; have hfz31_2 := bf B128.out 2; have hfz31_3 := bf B128.out 3; have hfz31_4 := bf B128.out 4; have hfz31_5 := bf B128.out 5) | ((with_reducible refine gate_callee (f := 15) rfl ?_); refine goesL_ (some 17) rfl rfl Try.func15 (by kernel_rfl) rfl #[.agg #[I q ab0, I q ab1, I q ab2, I q ab3, I q ab4, J Ab5 lb5.length cb5], I q t129] rfl (by (try simp only [List.map_toArray, List.map_cons, List.map_nil]); first | done | rfl | (simp only [List.length_drop, List.length_take]; rfl)) ?_; (with_reducible refine (laws_szPacket.calls ab0 ab1 ab2 ab3 ab4 _ _ lb5 t129 t130 _ ?side1 ?side2 A10.out).mono ?_); (case side1 => repeat (first | exact (Kd.C_below HR1_5.out HB.out) | (with_reducible refine ca ?_ _) | (with_reducible refine cN ?_ _) | (with_reducible refine cd1 ?_))); (case side2 => exact HC1_5.out); rintro e w32 ⟨rfl, hb⟩; refine ⟨_, rfl, ?_⟩; have N0 := am (bb (g := g127) (o := .cells #[I q aa0, I q aa1, I q aa2, I q aa3, I q aa4, J Aa5 la5.length ca5] 24 (0, 0)) (by (with_reducible repeat (first | apply bN | apply bd | apply ba)); exact B127.out) hb); have N1 := am (bb (g := g128) (o := .cells #[I q ab0, I q ab1, I q ab2, I q ab3, I q ab4, J Ab5 lb5.length cb5] 24 (0, 0)) (by (with_reducible repeat (first | apply bN | apply bd | apply ba)); exact B128.out) hb); have N2 := am (bp (by repeat (first | (with_reducible first | exact HB.out | apply pa | apply pN | apply p1 | refine bs ?_ E127.out | refine bs ?_ E128.out) | exact HB.out)) hb); clear B127 B128 HB; have B127 := N0; have B128 := N1; have HB := N2; clear N0 N1 N2; (try clear hb); (try clear hb2); (try clear hk); (try clear hi)))
        have N0 := am (bd B127.out)
        have N1 := am (bd B128.out)
        have N2 := am (p1 HB.out)
        clear B127
        clear B128
        clear HB
        have B127 := N0
        have B128 := N1
        have HB := N2
        clear N0 N1 N2
        refine start_ (n := 6) (S := fun w' => w'.cell? ⟨g127, 0, none⟩ = some (I q aa0) ∧ w'.cell? ⟨g127, 1, none⟩ = some (I q aa1) ∧ w'.cell? ⟨g127, 2, none⟩ = some (I q aa2) ∧ w'.cell? ⟨g127, 3, none⟩ = some (I q aa3) ∧ w'.cell? ⟨g127, 4, none⟩ = some (I q aa4) ∧ w'.cell? ⟨g127, 5, none⟩ = some (J Aa5 la5.length ca5) ∧ w'.cell? ⟨g128, 0, none⟩ = some (I q ab0) ∧ w'.cell? ⟨g128, 1, none⟩ = some (I q ab1) ∧ w'.cell? ⟨g128, 2, none⟩ = some (I q ab2) ∧ w'.cell? ⟨g128, 3, none⟩ = some (I q ab3) ∧ w'.cell? ⟨g128, 4, none⟩ = some (I q ab4) ∧ w'.cell? ⟨g128, 5, none⟩ = some (J Ab5 lb5.length cb5)) (ds := []) #[false, false, false, false, false, false] (by kernel_rfl) rfl rfl ⟨(bc B127.out 0).trans rfl, (bc B127.out 1).trans rfl, (bc B127.out 2).trans rfl, (bc B127.out 3).trans rfl, (bc B127.out 4).trans rfl, (bc B127.out 5).trans rfl, (bc B128.out 0).trans rfl, (bc B128.out 1).trans rfl, (bc B128.out 2).trans rfl, (bc B128.out 3).trans rfl, (bc B128.out 4).trans rfl, (bc B128.out 5).trans rfl⟩ (fun hHeld => ?_)
        generalize w32.drew = w33 at B127 B128 HB hHeld ⊢
        refine take_ (i := 0) (N := some 20) (v := ?_) (a' := ?_) #[true, false, false, false, false, false] rfl rfl (by kernel_rfl) (fun _ _ _ h => h) (Or.inl ⟨by rfl, ?_⟩) hHeld ?_ ?_
        rotate_left
        · rintro w' ⟨s0, s1, s2, s3, s4, s5, s6, s7, s8, s9, s10, s11⟩
          go_simp
          with_reducible rfl
        rotate_left
        · simp only [Act.put, List.setIfInBounds_toArray, List.set_cons_zero, List.set_cons_succ, i64_w, i32_w]
          rfl
        refine take_ (i := 2) (N := some 22) (v := ?_) (a' := ?_) #[true, false, true, false, false, false] rfl rfl (by kernel_rfl) (fun _ _ _ h => h) (Or.inl ⟨by rfl, ?_⟩) hHeld ?_ ?_
        rotate_left
        · rintro w' ⟨s0, s1, s2, s3, s4, s5, s6, s7, s8, s9, s10, s11⟩
          go_simp
          with_reducible rfl
        rotate_left
        · simp only [Act.put, List.setIfInBounds_toArray, List.set_cons_zero, List.set_cons_succ, i64_w, i32_w]
          rfl
        refine one_ (i := 1) (N := some 21) #[true, true, true, false, false, false] rfl rfl (by kernel_rfl) (by decide) (fun K hK => ?_)
        refine goes_ Try.func17 (by kernel_rfl) rfl #[.agg #[I q aa0, I q aa1, I q aa2, I q aa3, I q aa4, J Aa5 la5.length ca5]] (by rfl) rfl rfl (by (try simp only [List.map_toArray, List.map_cons, List.map_nil]); first | done | rfl | (simp only [List.length_drop, List.length_take]; rfl)) ?_
        with_reducible refine (laws_toPacket.calls k aa0 aa1 aa2 aa3 aa4 _ _ la5 t131 t132 t133 t134 t135 t136 _ ?side1 ?side2 A19.out).mono ?_
        (case side1 => repeat (first | exact (Kd.C_below HR0_5.out HB.out) | (with_reducible refine ca ?_ _) | (with_reducible refine cN ?_ _) | (with_reducible refine cd1 ?_)))
        (case side2 => exact HC0_5.out)
        rintro e w34 ⟨v137, rfl, ho0, hb⟩
        refine ⟨_, rfl, ?_⟩
        have N0 := am (rw1 ho0 (bz (by repeat (first | (with_reducible first | exact HB.out | apply pa | apply pN | apply p1 | refine bs ?_ E127.out | refine bs ?_ E128.out) | exact HB.out))))
        have N1 := am (bb (g := g127) (o := .cells #[I q aa0, I q aa1, I q aa2, I q aa3, I q aa4, J Aa5 la5.length ca5] 24 (0, 0)) (by (with_reducible repeat (first | apply bN | apply bd | apply ba)); exact B127.out) hb)
        have N2 := am (bb (g := g128) (o := .cells #[I q ab0, I q ab1, I q ab2, I q ab3, I q ab4, J Ab5 lb5.length cb5] 24 (0, 0)) (by (with_reducible repeat (first | apply bN | apply bd | apply ba)); exact B128.out) hb)
        have N3 := am (bp (by repeat (first | (with_reducible first | exact HB.out | apply pa | apply pN | apply p1 | refine bs ?_ E127.out | refine bs ?_ E128.out) | exact HB.out)) hb)
        clear B127
        clear B128
        clear HB
        have O138 := N0
        have B127 := N1
        have B128 := N2
        have HB := N3
        clear N0 N1 N2 N3
        (try clear hb)
        (try clear hb2)
        (try clear hk)
        (try clear hi)
        (try clear ho0)
        refine hK.out _ _ ⟨(bc B127.out 0).trans rfl, (bc B127.out 1).trans rfl, (bc B127.out 2).trans rfl, (bc B127.out 3).trans rfl, (bc B127.out 4).trans rfl, (bc B127.out 5).trans rfl, (bc B128.out 0).trans rfl, (bc B128.out 1).trans rfl, (bc B128.out 2).trans rfl, (bc B128.out 3).trans rfl, (bc B128.out 4).trans rfl, (bc B128.out 5).trans rfl⟩ (fun hHeld => ?_)
        clear hK K
        refine norm_ (a' := ?_) ?_ ?_
        rotate_left
        · show Act.put _ (some 21) _ = _
          simp only [Act.put, List.setIfInBounds_toArray, List.set_cons_zero, List.set_cons_succ, i64_w, i32_w]
          rfl
        refine one_ (i := 3) (N := some 23) #[true, true, true, true, false, false] rfl rfl (by kernel_rfl) (by decide) (fun K hK => ?_)
        refine goes_ Try.func17 (by kernel_rfl) rfl #[.agg #[I q ab0, I q ab1, I q ab2, I q ab3, I q ab4, J Ab5 lb5.length cb5]] (by rfl) rfl rfl (by (try simp only [List.map_toArray, List.map_cons, List.map_nil]); first | done | rfl | (simp only [List.length_drop, List.length_take]; rfl)) ?_
        with_reducible refine (laws_toPacket.calls k ab0 ab1 ab2 ab3 ab4 _ _ lb5 t139 t140 t141 t142 t143 t144 _ ?side1 ?side2 A20.out).mono ?_
        (case side1 => repeat (first | exact (Kd.C_below HR1_5.out HB.out) | (with_reducible refine ca ?_ _) | (with_reducible refine cN ?_ _) | (with_reducible refine cd1 ?_)))
        (case side2 => exact HC1_5.out)
        rintro e w35 ⟨v145, rfl, ho0, hb⟩
        refine ⟨_, rfl, ?_⟩
        have N0 := am (re (by (with_reducible repeat (first | apply ra | apply rN | apply rd1)); exact O138.out) (Kd.R_base ho0) hb)
        have N1 := am (rw1 (rn ho0 (rl (by (with_reducible repeat (first | apply ra | apply rN | apply rd1)); exact O138.out))) (bz (by repeat (first | (with_reducible first | exact HB.out | apply pa | apply pN | apply p1 | refine bs ?_ E127.out | refine bs ?_ E128.out) | exact HB.out))))
        have N2 := am (bb (g := g127) (o := .cells #[I q aa0, I q aa1, I q aa2, I q aa3, I q aa4, J Aa5 la5.length ca5] 24 (0, 0)) (by (with_reducible repeat (first | apply bN | apply bd | apply ba)); exact B127.out) hb)
        have N3 := am (bb (g := g128) (o := .cells #[I q ab0, I q ab1, I q ab2, I q ab3, I q ab4, J Ab5 lb5.length cb5] 24 (0, 0)) (by (with_reducible repeat (first | apply bN | apply bd | apply ba)); exact B128.out) hb)
        have N4 := am (bp (by repeat (first | (with_reducible first | exact HB.out | apply pa | apply pN | apply p1 | refine bs ?_ E127.out | refine bs ?_ E128.out) | exact HB.out)) hb)
        clear O138
        clear B127
        clear B128
        clear HB
        have O138 := N0
        have O146 := N1
        have B127 := N2
        have B128 := N3
        have HB := N4
        clear N0 N1 N2 N3 N4
        (try clear hb)
        (try clear hb2)
        (try clear hk)
        (try clear hi)
        (try clear ho0)
        obtain ⟨Ao36, co36, eo36⟩ := Kd.R_slice O138.out
        (first | subst eo36 | (injection eo36 with f1_ f2_ f3_; have f4_ := f1_.symm; have f5_ := f3_.symm; clear f1_ f2_ f3_; subst f4_; subst f5_))
        obtain ⟨Ao37, co37, eo37⟩ := Kd.R_slice O146.out
        (first | subst eo37 | (injection eo37 with f1_ f2_ f3_; have f4_ := f1_.symm; have f5_ := f3_.symm; clear f1_ f2_ f3_; subst f4_; subst f5_))
        refine hK.out _ _ ⟨(bc B127.out 0).trans rfl, (bc B127.out 1).trans rfl, (bc B127.out 2).trans rfl, (bc B127.out 3).trans rfl, (bc B127.out 4).trans rfl, (bc B127.out 5).trans rfl, (bc B128.out 0).trans rfl, (bc B128.out 1).trans rfl, (bc B128.out 2).trans rfl, (bc B128.out 3).trans rfl, (bc B128.out 4).trans rfl, (bc B128.out 5).trans rfl⟩ (fun hHeld => ?_)
        clear hK K
        refine norm_ (a' := ?_) ?_ ?_
        rotate_left
        · show Act.put _ (some 23) _ = _
          simp only [Act.put, List.setIfInBounds_toArray, List.set_cons_zero, List.set_cons_succ, i64_w, i32_w]
          rfl
        refine one_ (i := 4) (N := some 24) #[true, true, true, true, true, false] rfl rfl (by kernel_rfl) (by decide) (fun K hK => ?_)
        refine goes_ Try.func16 (by kernel_rfl) rfl #[.agg #[I q t131, I q t132, I q t133, I q t134, I q t135, J Ao36 t136.length co36], .agg #[I q t139, I q t140, I q t141, I q t142, I q t143, J Ao37 t144.length co37]] (by rfl) rfl rfl (by (try simp only [List.map_toArray, List.map_cons, List.map_nil]); first | done | rfl | (simp only [List.length_drop, List.length_take]; rfl)) ?_
        with_reducible refine (spec_SamePacket.calls t131 t132 t133 t134 t135 _ _ t136 t139 t140 t141 t142 t143 _ _ t144 t147 _ ?side1 ?side2 ?side3 ?side4 A21.out).mono ?_
        (case side1 => repeat (first | exact (Kd.R_reads' O138.out).2.2 | (with_reducible refine ca ?_ _) | (with_reducible refine cN ?_ _) | (with_reducible refine cd1 ?_)))
        (case side2 => exact (Kd.R_reads' O138.out).2.1)
        (case side3 => repeat (first | exact (Kd.R_reads' O146.out).2.2 | (with_reducible refine ca ?_ _) | (with_reducible refine cN ?_ _) | (with_reducible refine cd1 ?_)))
        (case side4 => exact (Kd.R_reads' O146.out).2.1)
        rintro e w38 ⟨rfl, hb⟩
        refine ⟨_, rfl, ?_⟩
        have N0 := am (rb (by (with_reducible repeat (first | apply ra | apply rN | apply rd1)); exact O138.out) hb)
        have N1 := am (rb (by (with_reducible repeat (first | apply ra | apply rN | apply rd1)); exact O146.out) hb)
        have N2 := am (bb (g := g127) (o := .cells #[I q aa0, I q aa1, I q aa2, I q aa3, I q aa4, J Aa5 la5.length ca5] 24 (0, 0)) (by (with_reducible repeat (first | apply bN | apply bd | apply ba)); exact B127.out) hb)
        have N3 := am (bb (g := g128) (o := .cells #[I q ab0, I q ab1, I q ab2, I q ab3, I q ab4, J Ab5 lb5.length cb5] 24 (0, 0)) (by (with_reducible repeat (first | apply bN | apply bd | apply ba)); exact B128.out) hb)
        have N4 := am (bp (by repeat (first | (with_reducible first | exact HB.out | apply pa | apply pN | apply p1 | refine bs ?_ E127.out | refine bs ?_ E128.out) | exact HB.out)) hb)
        clear O138
        clear O146
        clear B127
        clear B128
        clear HB
        have O138 := N0
        have O146 := N1
        have B127 := N2
        have B128 := N3
        have HB := N4
        clear N0 N1 N2 N3 N4
        (try clear hb)
        (try clear hb2)
        (try clear hk)
        (try clear hi)
        refine hK.out _ _ ⟨(bc B127.out 0).trans rfl, (bc B127.out 1).trans rfl, (bc B127.out 2).trans rfl, (bc B127.out 3).trans rfl, (bc B127.out 4).trans rfl, (bc B127.out 5).trans rfl, (bc B128.out 0).trans rfl, (bc B128.out 1).trans rfl, (bc B128.out 2).trans rfl, (bc B128.out 3).trans rfl, (bc B128.out 4).trans rfl, (bc B128.out 5).trans rfl⟩ (fun hHeld => ?_)
        clear hK K
        refine norm_ (a' := ?_) ?_ ?_
        rotate_left
        · show Act.put _ (some 24) _ = _
          simp only [Act.put, List.setIfInBounds_toArray, List.set_cons_zero, List.set_cons_succ, i64_w, i32_w]
          rfl
        refine pure_ (i := 5) (N := some 6) (v := ?_) (a' := ?_) #[true, true, true, true, true, true] rfl rfl (by kernel_rfl) (fun _ _ _ h => h) (Or.inl ⟨by rfl, ?_⟩) ?_ ?_
        rotate_left
        · intro w'
          first | (go_simp; with_reducible rfl) | (go_simp; (try unfold Instr.field); go_simp; (try simp only [asAgg]); go_simp; with_reducible rfl)
        rotate_left
        · simp only [Act.put, List.setIfInBounds_toArray, List.set_cons_zero, List.set_cons_succ, i64_w, i32_w]
          rfl
        refine done_ (by kernel_rfl) ?_
        have hcz39_0 : w38.cell? ⟨g127, 0, none⟩ = some (I q aa0) := (bc B127.out 0).trans rfl
        have hcz39_1 : w38.cell? ⟨g127, 1, none⟩ = some (I q aa1) := (bc B127.out 1).trans rfl
        have hcz39_2 : w38.cell? ⟨g127, 2, none⟩ = some (I q aa2) := (bc B127.out 2).trans rfl
        have hcz39_3 : w38.cell? ⟨g127, 3, none⟩ = some (I q aa3) := (bc B127.out 3).trans rfl
        have hcz39_4 : w38.cell? ⟨g127, 4, none⟩ = some (I q aa4) := (bc B127.out 4).trans rfl
        have hcz39_5 : w38.cell? ⟨g127, 5, none⟩ = some (J Aa5 la5.length ca5) := (bc B127.out 5).trans rfl
        have hfz39_0 := bf B127.out 0
        have hfz39_1 := bf B127.out 1
        have hfz39_2 := bf B127.out 2
        have hfz39_3 := bf B127.out 3
        have hfz39_4 := bf B127.out 4
        have hfz39_5 := bf B127.out 5
        try go_wp2_with (first | ((with_reducible refine gate_callee (f := 17) rfl ?_); refine goesL_ (some 26) rfl rfl Try.func17 (by kernel_rfl) rfl #[.agg #[I q aa0, I q aa1, I q aa2, I q aa3, I q aa4, J Aa5 la5.length ca5]] rfl (by (try simp only [List.map_toArray, List.map_cons, List.map_nil]); first | done | rfl | (simp only [List.length_drop, List.length_take]; rfl)) ?_; (with_reducible refine (laws_toPacket.calls k aa0 aa1 aa2 aa3 aa4 _ _ la5 t148 t149 t150 t151 t152 t153 _ ?side1 ?side2 A22.out).mono ?_); (case side1 => repeat (first | exact (Kd.C_below HR0_5.out HB.out) | (with_reducible refine ca ?_ _) | (with_reducible refine cN ?_ _) | (with_reducible refine cd1 ?_))); (case side2 => exact HC0_5.out); rintro e w40 ⟨v154, rfl, ho0, hb⟩; refine ⟨_, rfl, ?_⟩; have N0 := am (re (by (with_reducible repeat (first | apply ra | apply rN | apply rd1)); exact O138.out) (Kd.R_base ho0) hb); have N1 := am (re (by (with_reducible repeat (first | apply ra | apply rN | apply rd1)); exact O146.out) (Kd.R_base ho0) hb); have N2 := am (rw1 (rn (rn ho0 (rl (by (with_reducible repeat (first | apply ra | apply rN | apply rd1)); exact O138.out))) (rl (by (with_reducible repeat (first | apply ra | apply rN | apply rd1)); exact O146.out))) (bz (by repeat (first | (with_reducible first | exact HB.out | apply pa | apply pN | apply p1 | refine bs ?_ E127.out | refine bs ?_ E128.out) | exact HB.out)))); have N3 := am (bb (g := g127) (o := .cells #[I q aa0, I q aa1, I q aa2, I q aa3, I q aa4, J Aa5 la5.length ca5] 24 (0, 0)) (by (with_reducible repeat (first | apply bN | apply bd | apply ba)); exact B127.out) hb); have N4 := am (bb (g := g128) (o := .cells #[I q ab0, I q ab1, I q ab2, I q ab3, I q ab4, J Ab5 lb5.length cb5] 24 (0, 0)) (by (with_reducible repeat (first | apply bN | apply bd | apply ba)); exact B128.out) hb); have N5 := am (bp (by repeat (first | (with_reducible first | exact HB.out | apply pa | apply pN | apply p1 | refine bs ?_ E127.out | refine bs ?_ E128.out) | exact HB.out)) hb); clear O138 O146 B127 B128 HB; have O138 := N0; have O146 := N1; have O155 := N2; have B127 := N3; have B128 := N4; have HB := N5; clear N0 N1 N2 N3 N4 N5; (try clear hb); (try clear hb2); (try clear hk); (try clear hi); (try clear ho0)) | ((with_reducible refine gate_dst (N := 7) rfl ?_); refine box_event ?hg (N := 7) ?hd (cs := #[I q 0, I q 0, I q 0, I q 0, I q 0, .slice none 0 0]) (t := 27) ?hr ?_; (case hd => rfl); (case hg => rfl); (case hr => first | (go_simp; done) | (go_simp; rfl)); intro g156 hg w41 hbox hb; have N0 := am (rb (by (with_reducible repeat (first | apply ra | apply rN | apply rd1)); exact O138.out) hb); have N1 := am (rb (by (with_reducible repeat (first | apply ra | apply rN | apply rd1)); exact O146.out) hb); have N2 := am (rb (by (with_reducible repeat (first | apply ra | apply rN | apply rd1)); exact O155.out) hb); have N3 := am (bb (g := g127) (o := .cells #[I q aa0, I q aa1, I q aa2, I q aa3, I q aa4, J Aa5 la5.length ca5] 24 (0, 0)) (by (with_reducible repeat (first | apply bN | apply bd | apply ba)); exact B127.out) hb); have N4 := am (bb (g := g128) (o := .cells #[I q ab0, I q ab1, I q ab2, I q ab3, I q ab4, J Ab5 lb5.length cb5] 24 (0, 0)) (by (with_reducible repeat (first | apply bN | apply bd | apply ba)); exact B128.out) hb); have N5 := am (bp (by repeat (first | (with_reducible first | exact HB.out | apply pa | apply pN | apply p1 | refine bs ?_ E127.out | refine bs ?_ E128.out) | exact HB.out)) hb); have N6 := am (hbox); have N7 := am ((by rw [hg]; exact (bz (by repeat (first | (with_reducible first | exact HB.out | apply pa | apply pN | apply p1 | refine bs ?_ E127.out | refine bs ?_ E128.out) | exact HB.out))) : w.heap.size ≤ g156)); have N8 := am ((by rw [hg]; exact (bz (by repeat (first | (with_reducible first | exact HB.out | apply pa | apply pN | apply p1 | refine bs ?_ E127.out | refine bs ?_ E128.out) | exact HB.out))) : w.heap.size ≤ g156)); have N9 := am ((by rw [hg]; exact Nat.ne_of_lt (bl (g := g127) (o := .cells #[I q aa0, I q aa1, I q aa2, I q aa3, I q aa4, J Aa5 la5.length ca5] 24 (0, 0)) (by (with_reducible repeat (first | apply bN | apply bd | apply ba)); exact B127.out)) : g127 ≠ g156)); have N10 := am ((by rw [hg]; exact Nat.ne_of_gt (bl (g := g127) (o := .cells #[I q aa0, I q aa1, I q aa2, I q aa3, I q aa4, J Aa5 la5.length ca5] 24 (0, 0)) (by (with_reducible repeat (first | apply bN | apply bd | apply ba)); exact B127.out)) : g156 ≠ g127)); have N11 := am ((by rw [hg]; exact Nat.ne_of_lt (bl (g := g128) (o := .cells #[I q ab0, I q ab1, I q ab2, I q ab3, I q ab4, J Ab5 lb5.length cb5] 24 (0, 0)) (by (with_reducible repeat (first | apply bN | apply bd | apply ba)); exact B128.out)) : g128 ≠ g156)); have N12 := am ((by rw [hg]; exact Nat.ne_of_gt (bl (g := g128) (o := .cells #[I q ab0, I q ab1, I q ab2, I q ab3, I q ab4, J Ab5 lb5.length cb5] 24 (0, 0)) (by (with_reducible repeat (first | apply bN | apply bd | apply ba)); exact B128.out)) : g156 ≠ g128)); clear O138 O146 O155 B127 B128 HB; have O138 := N0; have O146 := N1; have O155 := N2; have B127 := N3; have B128 := N4; have HB := N5; have B156 := N6; have GW156 := N7; have E156 := N8; have NB127_156 := N9; have NB156_127 := N10; have NB128_156 := N11; have NB156_128 := N12; clear N0 N1 N2 N3 N4 N5 N6 N7 N8 N9 N10 N11 N12 hb hbox hg; have hnb42 := NB156_127.out; have hnc42 := NB127_156.out; have hnb43 := NB156_128.out; have hnc43 := NB128_156.out; have hcz44_0 : w41.cell? ⟨g156, 0, none⟩ = some (I q 0) := (bc B156.out 0).trans rfl; have hcz44_1 : w41.cell? ⟨g156, 1, none⟩ = some (I q 0) := (bc B156.out 1).trans rfl; have hcz44_2 : w41.cell? ⟨g156, 2, none⟩ = some (I q 0) := (bc B156.out 2).trans rfl; have hcz44_3 : w41.cell? ⟨g156, 3, none⟩ = some (I q 0) := (bc B156.out 3).trans rfl; have hcz44_4 : w41.cell? ⟨g156, 4, none⟩ = some (I q 0) := (bc B156.out 4).trans rfl; have hcz44_5 : w41.cell? ⟨g156, 5, none⟩ = some (.slice none 0 0) := (bc B156.out 5).trans rfl; have hfz44_0 := bf B156.out 0; have hfz44_1 := bf B156.out 1; have hfz44_2 := bf B156.out 2; have hfz44_3 := bf B156.out 3; have hfz44_4 := bf B156.out 4; have hfz44_5 := bf B156.out 5; obtain ⟨Ao45, co45, eo45⟩ := Kd.R_slice O155.out; subst eo45; have hcz46_0 : w41.cell? ⟨g128, 0, none⟩ = some (I q ab0) := (bc B128.out 0).trans rfl; have hcz46_1 : w41.cell? ⟨g128, 1, none⟩ = some (I q ab1) := (bc B128.out 1).trans rfl; have hcz46_2 : w41.cell? ⟨g128, 2, none⟩ = some (I q ab2) := (bc B128.out 2).trans rfl; have hcz46_3 : w41.cell? ⟨g128, 3, none⟩ = some (I q ab3) := (bc B128.out 3).trans rfl; have hcz46_4 : w41.cell? ⟨g128, 4, none⟩ = some (I q ab4) := (bc B128.out 4).trans rfl; have hcz46_5 : w41.cell? ⟨g128, 5, none⟩ = some (J Ab5 lb5.length cb5) := (bc B128.out 5).trans rfl; have hfz46_0 := bf B128.out 0; have hfz46_1 := bf B128.out 1; have hfz46_2 := bf B128.out 2; have hfz46_3 := bf B128.out 3; have hfz46_4 := bf B128.out 4; have hfz46_5 := bf B128.out 5) | ((with_reducible refine gate_callee (f := 17) rfl ?_); refine goesL_ (some 28) rfl rfl Try.func17 (by kernel_rfl) rfl #[.agg #[I q ab0, I q ab1, I q ab2, I q ab3, I q ab4, J Ab5 lb5.length cb5]] rfl (by (try simp only [List.map_toArray, List.map_cons, List.map_nil]); first | done | rfl | (simp only [List.length_drop, List.length_take]; rfl)) ?_; (with_reducible refine (laws_toPacket.calls k ab0 ab1 ab2 ab3 ab4 _ _ lb5 t157 t158 t159 t160 t161 t162 _ ?side1 ?side2 A23.out).mono ?_); (case side1 => exact Kd.C_below HR1_5.out (by repeat (first | (with_reducible first | exact HB.out | apply pa | apply pN | apply p1 | refine bs ?_ E127.out | refine bs ?_ E128.out | refine bs ?_ E156.out) | exact HB.out))); (case side2 => exact HC1_5.out); rintro e w47 ⟨v163, rfl, ho0, hb⟩; refine ⟨_, rfl, ?_⟩; have N0 := am (re (by (with_reducible repeat (first | apply ra | apply rN | apply rd1)); exact (Kd.R_mono (rf (p := ⟨g156, 5, none⟩) (rf (p := ⟨g156, 4, none⟩) (rf (p := ⟨g156, 3, none⟩) (rf (p := ⟨g156, 2, none⟩) (rf (p := ⟨g156, 1, none⟩) (rf (p := ⟨g156, 0, none⟩) (Kd.R_types O138.out B156.out (by decide)) (fun _ hk => hk.2) (I q t148)) (fun _ hk => hk.2) (I q t149)) (fun _ hk => hk.2) (I q t150)) (fun _ hk => hk.2) (I q t151)) (fun _ hk => hk.2) (I q t152)) (fun _ hk => hk.2) (J Ao45 t153.length co45)) (fun _ h_ => h_.1))) (Kd.R_base ho0) hb); have N1 := am (re (by (with_reducible repeat (first | apply ra | apply rN | apply rd1)); exact (Kd.R_mono (rf (p := ⟨g156, 5, none⟩) (rf (p := ⟨g156, 4, none⟩) (rf (p := ⟨g156, 3, none⟩) (rf (p := ⟨g156, 2, none⟩) (rf (p := ⟨g156, 1, none⟩) (rf (p := ⟨g156, 0, none⟩) (Kd.R_types O146.out B156.out (by decide)) (fun _ hk => hk.2) (I q t148)) (fun _ hk => hk.2) (I q t149)) (fun _ hk => hk.2) (I q t150)) (fun _ hk => hk.2) (I q t151)) (fun _ hk => hk.2) (I q t152)) (fun _ hk => hk.2) (J Ao45 t153.length co45)) (fun _ h_ => h_.1))) (Kd.R_base ho0) hb); have N2 := am (re (by (with_reducible repeat (first | apply ra | apply rN | apply rd1)); exact (Kd.R_mono (rf (p := ⟨g156, 5, none⟩) (rf (p := ⟨g156, 4, none⟩) (rf (p := ⟨g156, 3, none⟩) (rf (p := ⟨g156, 2, none⟩) (rf (p := ⟨g156, 1, none⟩) (rf (p := ⟨g156, 0, none⟩) (Kd.R_types O155.out B156.out (by decide)) (fun _ hk => hk.2) (I q t148)) (fun _ hk => hk.2) (I q t149)) (fun _ hk => hk.2) (I q t150)) (fun _ hk => hk.2) (I q t151)) (fun _ hk => hk.2) (I q t152)) (fun _ hk => hk.2) (J Ao45 t153.length co45)) (fun _ h_ => h_.1))) (Kd.R_base ho0) hb); have N3 := am (rw1 (rn (rn (rn ho0 (rl (by (with_reducible repeat (first | apply ra | apply rN | apply rd1)); exact (Kd.R_mono (rf (p := ⟨g156, 5, none⟩) (rf (p := ⟨g156, 4, none⟩) (rf (p := ⟨g156, 3, none⟩) (rf (p := ⟨g156, 2, none⟩) (rf (p := ⟨g156, 1, none⟩) (rf (p := ⟨g156, 0, none⟩) (Kd.R_types O138.out B156.out (by decide)) (fun _ hk => hk.2) (I q t148)) (fun _ hk => hk.2) (I q t149)) (fun _ hk => hk.2) (I q t150)) (fun _ hk => hk.2) (I q t151)) (fun _ hk => hk.2) (I q t152)) (fun _ hk => hk.2) (J Ao45 t153.length co45)) (fun _ h_ => h_.1))))) (rl (by (with_reducible repeat (first | apply ra | apply rN | apply rd1)); exact (Kd.R_mono (rf (p := ⟨g156, 5, none⟩) (rf (p := ⟨g156, 4, none⟩) (rf (p := ⟨g156, 3, none⟩) (rf (p := ⟨g156, 2, none⟩) (rf (p := ⟨g156, 1, none⟩) (rf (p := ⟨g156, 0, none⟩) (Kd.R_types O146.out B156.out (by decide)) (fun _ hk => hk.2) (I q t148)) (fun _ hk => hk.2) (I q t149)) (fun _ hk => hk.2) (I q t150)) (fun _ hk => hk.2) (I q t151)) (fun _ hk => hk.2) (I q t152)) (fun _ hk => hk.2) (J Ao45 t153.length co45)) (fun _ h_ => h_.1))))) (rl (by (with_reducible repeat (first | apply ra | apply rN | apply rd1)); exact (Kd.R_mono (rf (p := ⟨g156, 5, none⟩) (rf (p := ⟨g156, 4, none⟩) (rf (p := ⟨g156, 3, none⟩) (rf (p := ⟨g156, 2, none⟩) (rf (p := ⟨g156, 1, none⟩) (rf (p := ⟨g156, 0, none⟩) (Kd.R_types O155.out B156.out (by decide)) (fun _ hk => hk.2) (I q t148)) (fun _ hk => hk.2) (I q t149)) (fun _ hk => hk.2) (I q t150)) (fun _ hk => hk.2) (I q t151)) (fun _ hk => hk.2) (I q t152)) (fun _ hk => hk.2) (J Ao45 t153.length co45)) (fun _ h_ => h_.1))))) (bz (by repeat (first | (with_reducible first | exact HB.out | apply pa | apply pN | apply p1 | refine bs ?_ E127.out | refine bs ?_ E128.out | refine bs ?_ E156.out) | exact HB.out)))); have N4 := am (bb (g := g127) (o := .cells #[I q aa0, I q aa1, I q aa2, I q aa3, I q aa4, J Aa5 la5.length ca5] 24 (0, 0)) (by (with_reducible repeat (first | apply bN | apply bd | apply ba)); refine bq ?_ NB127_156.out _; (with_reducible repeat (first | apply bN | apply bd | apply ba)); refine bq ?_ NB127_156.out _; (with_reducible repeat (first | apply bN | apply bd | apply ba)); refine bq ?_ NB127_156.out _; (with_reducible repeat (first | apply bN | apply bd | apply ba)); refine bq ?_ NB127_156.out _; (with_reducible repeat (first | apply bN | apply bd | apply ba)); refine bq ?_ NB127_156.out _; (with_reducible repeat (first | apply bN | apply bd | apply ba)); refine bq ?_ NB127_156.out _; (with_reducible repeat (first | apply bN | apply bd | apply ba)); exact B127.out) hb); have N5 := am (bb (g := g128) (o := .cells #[I q ab0, I q ab1, I q ab2, I q ab3, I q ab4, J Ab5 lb5.length cb5] 24 (0, 0)) (by (with_reducible repeat (first | apply bN | apply bd | apply ba)); refine bq ?_ NB128_156.out _; (with_reducible repeat (first | apply bN | apply bd | apply ba)); refine bq ?_ NB128_156.out _; (with_reducible repeat (first | apply bN | apply bd | apply ba)); refine bq ?_ NB128_156.out _; (with_reducible repeat (first | apply bN | apply bd | apply ba)); refine bq ?_ NB128_156.out _; (with_reducible repeat (first | apply bN | apply bd | apply ba)); refine bq ?_ NB128_156.out _; (with_reducible repeat (first | apply bN | apply bd | apply ba)); refine bq ?_ NB128_156.out _; (with_reducible repeat (first | apply bN | apply bd | apply ba)); exact B128.out) hb); have N6 := am (bb (g := g156) (o := .cells #[I q t148, I q t149, I q t150, I q t151, I q t152, J Ao45 t153.length co45] 27 (0, 0)) (by (with_reducible repeat (first | apply bN | apply bd | apply ba)); refine blk_put (cs := #[I q t148, I q t149, I q t150, I q t151, I q t152, .slice none 0 0]) ?_ 5 _ rfl; (with_reducible repeat (first | apply bN | apply bd | apply ba)); refine blk_put (cs := #[I q t148, I q t149, I q t150, I q t151, I q 0, .slice none 0 0]) ?_ 4 _ rfl; (with_reducible repeat (first | apply bN | apply bd | apply ba)); refine blk_put (cs := #[I q t148, I q t149, I q t150, I q 0, I q 0, .slice none 0 0]) ?_ 3 _ rfl; (with_reducible repeat (first | apply bN | apply bd | apply ba)); refine blk_put (cs := #[I q t148, I q t149, I q 0, I q 0, I q 0, .slice none 0 0]) ?_ 2 _ rfl; (with_reducible repeat (first | apply bN | apply bd | apply ba)); refine blk_put (cs := #[I q t148, I q 0, I q 0, I q 0, I q 0, .slice none 0 0]) ?_ 1 _ rfl; (with_reducible repeat (first | apply bN | apply bd | apply ba)); refine blk_put (cs := #[I q 0, I q 0, I q 0, I q 0, I q 0, .slice none 0 0]) ?_ 0 _ rfl; (with_reducible repeat (first | apply bN | apply bd | apply ba)); exact B156.out) hb); have N7 := am (bp (by repeat (first | (with_reducible first | exact HB.out | apply pa | apply pN | apply p1 | refine bs ?_ E127.out | refine bs ?_ E128.out | refine bs ?_ E156.out) | exact HB.out)) hb); clear O138 O146 O155 B127 B128 B156 HB; have O138 := N0; have O146 := N1; have O155 := N2; have O164 := N3; have B127 := N4; have B128 := N5; have B156 := N6; have HB := N7; clear N0 N1 N2 N3 N4 N5 N6 N7; (try clear hb); (try clear hb2); (try clear hk); (try clear hi); (try clear ho0)) | ((with_reducible refine gate_dst (N := 8) rfl ?_); refine box_event ?hg (N := 8) ?hd (cs := #[I q 0, I q 0, I q 0, I q 0, I q 0, .slice none 0 0]) (t := 27) ?hr ?_; (case hd => rfl); (case hg => rfl); (case hr => first | (go_simp; done) | (go_simp; rfl)); intro g165 hg w48 hbox hb; have N0 := am (rb (by (with_reducible repeat (first | apply ra | apply rN | apply rd1)); exact O138.out) hb); have N1 := am (rb (by (with_reducible repeat (first | apply ra | apply rN | apply rd1)); exact O146.out) hb); have N2 := am (rb (by (with_reducible repeat (first | apply ra | apply rN | apply rd1)); exact O155.out) hb); have N3 := am (rb (by (with_reducible repeat (first | apply ra | apply rN | apply rd1)); exact O164.out) hb); have N4 := am (bb (g := g127) (o := .cells #[I q aa0, I q aa1, I q aa2, I q aa3, I q aa4, J Aa5 la5.length ca5] 24 (0, 0)) (by (with_reducible repeat (first | apply bN | apply bd | apply ba)); exact B127.out) hb); have N5 := am (bb (g := g128) (o := .cells #[I q ab0, I q ab1, I q ab2, I q ab3, I q ab4, J Ab5 lb5.length cb5] 24 (0, 0)) (by (with_reducible repeat (first | apply bN | apply bd | apply ba)); exact B128.out) hb); have N6 := am (bb (g := g156) (o := .cells #[I q t148, I q t149, I q t150, I q t151, I q t152, J Ao45 t153.length co45] 27 (0, 0)) (by (with_reducible repeat (first | apply bN | apply bd | apply ba)); exact B156.out) hb); have N7 := am (bp (by repeat (first | (with_reducible first | exact HB.out | apply pa | apply pN | apply p1 | refine bs ?_ E127.out | refine bs ?_ E128.out | refine bs ?_ E156.out) | exact HB.out)) hb); have N8 := am (hbox); have N9 := am ((by rw [hg]; exact (bz (by repeat (first | (with_reducible first | exact HB.out | apply pa | apply pN | apply p1 | refine bs ?_ E127.out | refine bs ?_ E128.out | refine bs ?_ E156.out) | exact HB.out))) : w.heap.size ≤ g165)); have N10 := am ((by rw [hg]; exact (bz (by repeat (first | (with_reducible first | exact HB.out | apply pa | apply pN | apply p1 | refine bs ?_ E127.out | refine bs ?_ E128.out | refine bs ?_ E156.out) | exact HB.out))) : w.heap.size ≤ g165)); have N11 := am ((by rw [hg]; exact Nat.ne_of_lt (bl (g := g127) (o := .cells #[I q aa0, I q aa1, I q aa2, I q aa3, I q aa4, J Aa5 la5.length ca5] 24 (0, 0)) (by (with_reducible repeat (first | apply bN | apply bd | apply ba)); exact B127.out)) : g127 ≠ g165)); have N12 := am ((by rw [hg]; exact Nat.ne_of_gt (bl (g := g127) (o := .cells #[I q aa0, I q aa1, I q aa2, I q aa3, I q aa4, J Aa5 la5.length ca5] 24 (0, 0)) (by (with_reducible repeat (first | apply bN | apply bd | apply ba)); exact B127.out)) : g165 ≠ g127)); have N13 := am ((by rw [hg]; exact Nat.ne_of_lt (bl (g := g128) (o := .cells #[I q ab0, I q ab1, I q ab2, I q ab3, I q ab4, J Ab5 lb5.length cb5] 24 (0, 0)) (by (with_reducible repeat (first | apply bN | apply bd | apply ba)); exact B128.out)) : g128 ≠ g165)); have N14 := am ((by rw [hg]; exact Nat.ne_of_gt (bl (g := g128) (o := .cells #[I q ab0, I q ab1, I q ab2, I q ab3, I q ab4, J Ab5 lb5.length cb5] 24 (0, 0)) (by (with_reducible repeat (first | apply bN | apply bd | apply ba)); exact B128.out)) : g165 ≠ g128)); have N15 := am ((by rw [hg]; exact Nat.ne_of_lt (bl (g := g156) (o := .cells #[I q t148, I q t149, I q t150, I q t151, I q t152, J Ao45 t153.length co45] 27 (0, 0)) (by (with_reducible repeat (first | apply bN | apply bd | apply ba)); exact B156.out)) : g156 ≠ g165)); have N16 := am ((by rw [hg]; exact Nat.ne_of_gt (bl (g := g156) (o := .cells #[I q t148, I q t149, I q t150, I q t151, I q t152, J Ao45 t153.length co45] 27 (0, 0)) (by (with_reducible repeat (first | apply bN | apply bd | apply ba)); exact B156.out)) : g165 ≠ g156)); clear O138 O146 O155 O164 B127 B128 B156 HB; have O138 := N0; have O146 := N1; have O155 := N2; have O164 := N3; have B127 := N4; have B128 := N5; have B156 := N6; have HB := N7; have B165 := N8; have GW165 := N9; have E165 := N10; have NB127_165 := N11; have NB165_127 := N12; have NB128_165 := N13; have NB165_128 := N14; have NB156_165 := N15; have NB165_156 := N16; clear N0 N1 N2 N3 N4 N5 N6 N7 N8 N9 N10 N11 N12 N13 N14 N15 N16 hb hbox hg; have hnb49 := NB165_127.out; have hnc49 := NB127_165.out; have hnb50 := NB165_128.out; have hnc50 := NB128_165.out; have hnb51 := NB165_156.out; have hnc51 := NB156_165.out; have hcz52_0 : w48.cell? ⟨g165, 0, none⟩ = some (I q 0) := (bc B165.out 0).trans rfl; have hcz52_1 : w48.cell? ⟨g165, 1, none⟩ = some (I q 0) := (bc B165.out 1).trans rfl; have hcz52_2 : w48.cell? ⟨g165, 2, none⟩ = some (I q 0) := (bc B165.out 2).trans rfl; have hcz52_3 : w48.cell? ⟨g165, 3, none⟩ = some (I q 0) := (bc B165.out 3).trans rfl; have hcz52_4 : w48.cell? ⟨g165, 4, none⟩ = some (I q 0) := (bc B165.out 4).trans rfl; have hcz52_5 : w48.cell? ⟨g165, 5, none⟩ = some (.slice none 0 0) := (bc B165.out 5).trans rfl; have hfz52_0 := bf B165.out 0; have hfz52_1 := bf B165.out 1; have hfz52_2 := bf B165.out 2; have hfz52_3 := bf B165.out 3; have hfz52_4 := bf B165.out 4; have hfz52_5 := bf B165.out 5; obtain ⟨Ao53, co53, eo53⟩ := Kd.R_slice O164.out; subst eo53; have hcz54_0 : w48.cell? ⟨g156, 0, none⟩ = some (I q t148) := (bc B156.out 0).trans rfl; have hcz54_1 : w48.cell? ⟨g156, 1, none⟩ = some (I q t149) := (bc B156.out 1).trans rfl; have hcz54_2 : w48.cell? ⟨g156, 2, none⟩ = some (I q t150) := (bc B156.out 2).trans rfl; have hcz54_3 : w48.cell? ⟨g156, 3, none⟩ = some (I q t151) := (bc B156.out 3).trans rfl; have hcz54_4 : w48.cell? ⟨g156, 4, none⟩ = some (I q t152) := (bc B156.out 4).trans rfl; have hcz54_5 : w48.cell? ⟨g156, 5, none⟩ = some (J Ao45 t153.length co45) := (bc B156.out 5).trans rfl; have hfz54_0 := bf B156.out 0; have hfz54_1 := bf B156.out 1; have hfz54_2 := bf B156.out 2; have hfz54_3 := bf B156.out 3; have hfz54_4 := bf B156.out 4; have hfz54_5 := bf B156.out 5) | ((with_reducible refine gate_callee (f := 18) rfl ?_); refine goesL_ (some 31) rfl rfl Try.func18 (by kernel_rfl) rfl #[.agg #[I q t148, I q t149, I q t150, I q t151, I q t152, J Ao45 t153.length co45], .agg #[I q t157, I q t158, I q t159, I q t160, I q t161, J Ao53 t162.length co53]] rfl (by (try simp only [List.map_toArray, List.map_cons, List.map_nil]); first | done | rfl | (simp only [List.length_drop, List.length_take]; rfl)) ?_; (with_reducible refine (impl_SamePacket.calls t148 t149 t150 t151 t152 _ _ t153 t157 t158 t159 t160 t161 _ _ t162 t166 _ ?side1 ?side2 ?side3 ?side4 A24.out).mono ?_); (case side1 => refine (Kd.R_reads' (e := 5) (base := w.heap.size) (ok := fun k_ => (((True ∧ some k_ ≠ (J Ao36 t136.length co36 : Value).ownBlock) ∧ some k_ ≠ (J Ao37 t144.length co37 : Value).ownBlock) ∧ some k_ ≠ (J Ao53 t162.length co53 : Value).ownBlock)) (n := t153.length) (c := co45) ?_).2.2; exact (by (with_reducible repeat (first | apply ra | apply rN | apply rd1)); exact (Kd.R_mono (rf (p := ⟨g165, 5, none⟩) (rf (p := ⟨g165, 4, none⟩) (rf (p := ⟨g165, 3, none⟩) (rf (p := ⟨g165, 2, none⟩) (rf (p := ⟨g165, 1, none⟩) (rf (p := ⟨g165, 0, none⟩) (Kd.R_types O155.out B165.out (by decide)) (fun _ hk => hk.2) (I q t157)) (fun _ hk => hk.2) (I q t158)) (fun _ hk => hk.2) (I q t159)) (fun _ hk => hk.2) (I q t160)) (fun _ hk => hk.2) (I q t161)) (fun _ hk => hk.2) (J Ao53 t162.length co53)) (fun _ h_ => h_.1)))); (case side2 => exact (Kd.R_reads' O155.out).2.1); (case side3 => refine (Kd.R_reads' (e := 5) (base := w.heap.size) (ok := fun k_ => (((True ∧ some k_ ≠ (J Ao36 t136.length co36 : Value).ownBlock) ∧ some k_ ≠ (J Ao37 t144.length co37 : Value).ownBlock) ∧ some k_ ≠ (J Ao45 t153.length co45 : Value).ownBlock)) (n := t162.length) (c := co53) ?_).2.2; exact (by (with_reducible repeat (first | apply ra | apply rN | apply rd1)); exact (Kd.R_mono (rf (p := ⟨g165, 5, none⟩) (rf (p := ⟨g165, 4, none⟩) (rf (p := ⟨g165, 3, none⟩) (rf (p := ⟨g165, 2, none⟩) (rf (p := ⟨g165, 1, none⟩) (rf (p := ⟨g165, 0, none⟩) (Kd.R_types O164.out B165.out (by decide)) (fun _ hk => hk.2) (I q t157)) (fun _ hk => hk.2) (I q t158)) (fun _ hk => hk.2) (I q t159)) (fun _ hk => hk.2) (I q t160)) (fun _ hk => hk.2) (I q t161)) (fun _ hk => hk.2) (J Ao53 t162.length co53)) (fun _ h_ => h_.1)))); (case side4 => exact (Kd.R_reads' O164.out).2.1); rintro e w55 ⟨rfl, hb⟩; refine ⟨_, rfl, ?_⟩; have N0 := am (rb (by (with_reducible repeat (first | apply ra | apply rN | apply rd1)); exact (Kd.R_mono (rf (p := ⟨g165, 5, none⟩) (rf (p := ⟨g165, 4, none⟩) (rf (p := ⟨g165, 3, none⟩) (rf (p := ⟨g165, 2, none⟩) (rf (p := ⟨g165, 1, none⟩) (rf (p := ⟨g165, 0, none⟩) (Kd.R_types O138.out B165.out (by decide)) (fun _ hk => hk.2) (I q t157)) (fun _ hk => hk.2) (I q t158)) (fun _ hk => hk.2) (I q t159)) (fun _ hk => hk.2) (I q t160)) (fun _ hk => hk.2) (I q t161)) (fun _ hk => hk.2) (J Ao53 t162.length co53)) (fun _ h_ => h_.1))) hb); have N1 := am (rb (by (with_reducible repeat (first | apply ra | apply rN | apply rd1)); exact (Kd.R_mono (rf (p := ⟨g165, 5, none⟩) (rf (p := ⟨g165, 4, none⟩) (rf (p := ⟨g165, 3, none⟩) (rf (p := ⟨g165, 2, none⟩) (rf (p := ⟨g165, 1, none⟩) (rf (p := ⟨g165, 0, none⟩) (Kd.R_types O146.out B165.out (by decide)) (fun _ hk => hk.2) (I q t157)) (fun _ hk => hk.2) (I q t158)) (fun _ hk => hk.2) (I q t159)) (fun _ hk => hk.2) (I q t160)) (fun _ hk => hk.2) (I q t161)) (fun _ hk => hk.2) (J Ao53 t162.length co53)) (fun _ h_ => h_.1))) hb); have N2 := am (rb (by (with_reducible repeat (first | apply ra | apply rN | apply rd1)); exact (Kd.R_mono (rf (p := ⟨g165, 5, none⟩) (rf (p := ⟨g165, 4, none⟩) (rf (p := ⟨g165, 3, none⟩) (rf (p := ⟨g165, 2, none⟩) (rf (p := ⟨g165, 1, none⟩) (rf (p := ⟨g165, 0, none⟩) (Kd.R_types O155.out B165.out (by decide)) (fun _ hk => hk.2) (I q t157)) (fun _ hk => hk.2) (I q t158)) (fun _ hk => hk.2) (I q t159)) (fun _ hk => hk.2) (I q t160)) (fun _ hk => hk.2) (I q t161)) (fun _ hk => hk.2) (J Ao53 t162.length co53)) (fun _ h_ => h_.1))) hb); have N3 := am (rb (by (with_reducible repeat (first | apply ra | apply rN | apply rd1)); exact (Kd.R_mono (rf (p := ⟨g165, 5, none⟩) (rf (p := ⟨g165, 4, none⟩) (rf (p := ⟨g165, 3, none⟩) (rf (p := ⟨g165, 2, none⟩) (rf (p := ⟨g165, 1, none⟩) (rf (p := ⟨g165, 0, none⟩) (Kd.R_types O164.out B165.out (by decide)) (fun _ hk => hk.2) (I q t157)) (fun _ hk => hk.2) (I q t158)) (fun _ hk => hk.2) (I q t159)) (fun _ hk => hk.2) (I q t160)) (fun _ hk => hk.2) (I q t161)) (fun _ hk => hk.2) (J Ao53 t162.length co53)) (fun _ h_ => h_.1))) hb); have N4 := am (bb (g := g127) (o := .cells #[I q aa0, I q aa1, I q aa2, I q aa3, I q aa4, J Aa5 la5.length ca5] 24 (0, 0)) (by (with_reducible repeat (first | apply bN | apply bd | apply ba)); refine bq ?_ NB127_165.out _; (with_reducible repeat (first | apply bN | apply bd | apply ba)); refine bq ?_ NB127_165.out _; (with_reducible repeat (first | apply bN | apply bd | apply ba)); refine bq ?_ NB127_165.out _; (with_reducible repeat (first | apply bN | apply bd | apply ba)); refine bq ?_ NB127_165.out _; (with_reducible repeat (first | apply bN | apply bd | apply ba)); refine bq ?_ NB127_165.out _; (with_reducible repeat (first | apply bN | apply bd | apply ba)); refine bq ?_ NB127_165.out _; (with_reducible repeat (first | apply bN | apply bd | apply ba)); exact B127.out) hb); have N5 := am (bb (g := g128) (o := .cells #[I q ab0, I q ab1, I q ab2, I q ab3, I q ab4, J Ab5 lb5.length cb5] 24 (0, 0)) (by (with_reducible repeat (first | apply bN | apply bd | apply ba)); refine bq ?_ NB128_165.out _; (with_reducible repeat (first | apply bN | apply bd | apply ba)); refine bq ?_ NB128_165.out _; (with_reducible repeat (first | apply bN | apply bd | apply ba)); refine bq ?_ NB128_165.out _; (with_reducible repeat (first | apply bN | apply bd | apply ba)); refine bq ?_ NB128_165.out _; (with_reducible repeat (first | apply bN | apply bd | apply ba)); refine bq ?_ NB128_165.out _; (with_reducible repeat (first | apply bN | apply bd | apply ba)); refine bq ?_ NB128_165.out _; (with_reducible repeat (first | apply bN | apply bd | apply ba)); exact B128.out) hb); have N6 := am (bb (g := g156) (o := .cells #[I q t148, I q t149, I q t150, I q t151, I q t152, J Ao45 t153.length co45] 27 (0, 0)) (by (with_reducible repeat (first | apply bN | apply bd | apply ba)); refine bq ?_ NB156_165.out _; (with_reducible repeat (first | apply bN | apply bd | apply ba)); refine bq ?_ NB156_165.out _; (with_reducible repeat (first | apply bN | apply bd | apply ba)); refine bq ?_ NB156_165.out _; (with_reducible repeat (first | apply bN | apply bd | apply ba)); refine bq ?_ NB156_165.out _; (with_reducible repeat (first | apply bN | apply bd | apply ba)); refine bq ?_ NB156_165.out _; (with_reducible repeat (first | apply bN | apply bd | apply ba)); refine bq ?_ NB156_165.out _; (with_reducible repeat (first | apply bN | apply bd | apply ba)); exact B156.out) hb); have N7 := am (bb (g := g165) (o := .cells #[I q t157, I q t158, I q t159, I q t160, I q t161, J Ao53 t162.length co53] 27 (0, 0)) (by (with_reducible repeat (first | apply bN | apply bd | apply ba)); refine blk_put (cs := #[I q t157, I q t158, I q t159, I q t160, I q t161, .slice none 0 0]) ?_ 5 _ rfl; (with_reducible repeat (first | apply bN | apply bd | apply ba)); refine blk_put (cs := #[I q t157, I q t158, I q t159, I q t160, I q 0, .slice none 0 0]) ?_ 4 _ rfl; (with_reducible repeat (first | apply bN | apply bd | apply ba)); refine blk_put (cs := #[I q t157, I q t158, I q t159, I q 0, I q 0, .slice none 0 0]) ?_ 3 _ rfl; (with_reducible repeat (first | apply bN | apply bd | apply ba)); refine blk_put (cs := #[I q t157, I q t158, I q 0, I q 0, I q 0, .slice none 0 0]) ?_ 2 _ rfl; (with_reducible repeat (first | apply bN | apply bd | apply ba)); refine blk_put (cs := #[I q t157, I q 0, I q 0, I q 0, I q 0, .slice none 0 0]) ?_ 1 _ rfl; (with_reducible repeat (first | apply bN | apply bd | apply ba)); refine blk_put (cs := #[I q 0, I q 0, I q 0, I q 0, I q 0, .slice none 0 0]) ?_ 0 _ rfl; (with_reducible repeat (first | apply bN | apply bd | apply ba)); exact B165.out) hb); have N8 := am (bp (by repeat (first | (with_reducible first | exact HB.out | apply pa | apply pN | apply p1 | refine bs ?_ E127.out | refine bs ?_ E128.out | refine bs ?_ E156.out | refine bs ?_ E165.out) | exact HB.out)) hb); clear O138 O146 O155 O164 B127 B128 B156 B165 HB; have O138 := N0; have O146 := N1; have O155 := N2; have O164 := N3; have B127 := N4; have B128 := N5; have B156 := N6; have B165 := N7; have HB := N8; clear N0 N1 N2 N3 N4 N5 N6 N7 N8; (try clear hb); (try clear hb2); (try clear hk); (try clear hi)))
        go_ret
        exact ⟨by first | rfl | (simp [errW_none, errW_some] <;> rfl) | (simp [*, errW_none, errW_some] <;> rfl), by repeat (first | (with_reducible first | exact HB.out | apply pa | apply pN | apply p1 | refine bs ?_ E127.out | refine bs ?_ E128.out | refine bs ?_ E156.out | refine bs ?_ E165.out) | exact HB.out)⟩
      · rw [if_neg c25] at H
        have c25b0 : (t166 != t147) = false := by simpa using c25
        (try (have c25b1 : decide (t166 = t147) = true := by simpa using c25))
        (try (have c25b2 : (t166 == t147) = true := by simpa using c25))
        clear c25
        replace H := Option.bind_eq_some_iff.mp H
        obtain ⟨⟨t167, t168, t169, t170, t171, t172⟩, A560, H⟩ := H
        replace H : ((laws_eqPacket.f k t148 t149 t150 t151 t152 t153 t167 t168 t169 t170 t171 t172).bind fun t175 => (if t175 = true then ((laws_toPacket.f k ab0 ab1 ab2 ab3 ab4 lb5).bind fun bt176 => ((laws_eqPacket.f k t157 t158 t159 t160 t161 t162 bt176.1 bt176.2.1 bt176.2.2.1 bt176.2.2.2.1 bt176.2.2.2.2.1 bt176.2.2.2.2.2).bind fun t184 => (if t184 = true then (some true) else (some false)))) else (some false))) = some r := H
        have A56 := am A560
        clear A560
        replace H := Option.bind_eq_some_iff.mp H
        obtain ⟨t175, A570, H⟩ := H
        replace H : (if t175 = true then ((laws_toPacket.f k ab0 ab1 ab2 ab3 ab4 lb5).bind fun bt176 => ((laws_eqPacket.f k t157 t158 t159 t160 t161 t162 bt176.1 bt176.2.1 bt176.2.2.1 bt176.2.2.2.1 bt176.2.2.2.2.1 bt176.2.2.2.2.2).bind fun t184 => (if t184 = true then (some true) else (some false)))) else (some false)) = some r := H
        have A57 := am A570
        clear A570
        by_cases c58 : t175 = true
        · subst c58
          have H1 : ((laws_toPacket.f k ab0 ab1 ab2 ab3 ab4 lb5).bind fun bt176 => ((laws_eqPacket.f k t157 t158 t159 t160 t161 t162 bt176.1 bt176.2.1 bt176.2.2.1 bt176.2.2.2.1 bt176.2.2.2.2.1 bt176.2.2.2.2.2).bind fun t184 => (if t184 = true then (some true) else (some false)))) = some r := by rw [if_pos rfl] at H; exact H
          clear H
          have H := H1
          clear H1
          replace H := Option.bind_eq_some_iff.mp H
          obtain ⟨⟨t176, t177, t178, t179, t180, t181⟩, A590, H⟩ := H
          replace H : ((laws_eqPacket.f k t157 t158 t159 t160 t161 t162 t176 t177 t178 t179 t180 t181).bind fun t184 => (if t184 = true then (some true) else (some false))) = some r := H
          have A59 := am A590
          clear A590
          replace H := Option.bind_eq_some_iff.mp H
          obtain ⟨t184, A600, H⟩ := H
          replace H : (if t184 = true then (some true) else (some false)) = some r := H
          have A60 := am A600
          clear A600
          by_cases c61 : t184 = true
          · subst c61
            have H1 : (some true) = some r := by rw [if_pos rfl] at H; exact H
            clear H
            have H := H1
            clear H1
            obtain rfl := Option.some.inj H
            go_enter Try.func3, Try.ntmps3
            try go_wp2_with (first | ((with_reducible refine gate_dst (N := 2) rfl ?_); refine box_event ?hg (N := 2) ?hd (cs := #[I q aa0, I q aa1, I q aa2, I q aa3, I q aa4, J Aa5 la5.length ca5]) (t := 24) ?hr ?_; (case hd => rfl); (case hg => rfl); (case hr => first | (go_simp; done) | (go_simp; rfl)); intro g127 hg w62 hbox hb; have N0 := am (bp (by repeat (first | (with_reducible first | exact HB.out | apply pa | apply pN | apply p1) | exact HB.out)) hb); have N1 := am (hbox); have N2 := am ((by rw [hg]; exact (bz (by repeat (first | (with_reducible first | exact HB.out | apply pa | apply pN | apply p1) | exact HB.out))) : w.heap.size ≤ g127)); have N3 := am ((by rw [hg]; exact (bz (by repeat (first | (with_reducible first | exact HB.out | apply pa | apply pN | apply p1) | exact HB.out))) : w.heap.size ≤ g127)); clear HB; have HB := N0; have B127 := N1; have GW127 := N2; have E127 := N3; clear N0 N1 N2 N3 hb hbox hg) | ((with_reducible refine gate_dst (N := 3) rfl ?_); refine box_event ?hg (N := 3) ?hd (cs := #[I q ab0, I q ab1, I q ab2, I q ab3, I q ab4, J Ab5 lb5.length cb5]) (t := 24) ?hr ?_; (case hd => rfl); (case hg => rfl); (case hr => first | (go_simp; done) | (go_simp; rfl)); intro g128 hg w63 hbox hb; have N0 := am (bb (g := g127) (o := .cells #[I q aa0, I q aa1, I q aa2, I q aa3, I q aa4, J Aa5 la5.length ca5] 24 (0, 0)) (by (with_reducible repeat (first | apply bN | apply bd | apply ba)); exact B127.out) hb); have N1 := am (bp (by repeat (first | (with_reducible first | exact HB.out | apply pa | apply pN | apply p1 | refine bs ?_ E127.out) | exact HB.out)) hb); have N2 := am (hbox); have N3 := am ((by rw [hg]; exact (bz (by repeat (first | (with_reducible first | exact HB.out | apply pa | apply pN | apply p1 | refine bs ?_ E127.out) | exact HB.out))) : w.heap.size ≤ g128)); have N4 := am ((by rw [hg]; exact (bz (by repeat (first | (with_reducible first | exact HB.out | apply pa | apply pN | apply p1 | refine bs ?_ E127.out) | exact HB.out))) : w.heap.size ≤ g128)); have N5 := am ((by rw [hg]; exact Nat.ne_of_lt (bl (g := g127) (o := .cells #[I q aa0, I q aa1, I q aa2, I q aa3, I q aa4, J Aa5 la5.length ca5] 24 (0, 0)) (by (with_reducible repeat (first | apply bN | apply bd | apply ba)); exact B127.out)) : g127 ≠ g128)); have N6 := am ((by rw [hg]; exact Nat.ne_of_gt (bl (g := g127) (o := .cells #[I q aa0, I q aa1, I q aa2, I q aa3, I q aa4, J Aa5 la5.length ca5] 24 (0, 0)) (by (with_reducible repeat (first | apply bN | apply bd | apply ba)); exact B127.out)) : g128 ≠ g127)); clear B127 HB; have B127 := N0; have HB := N1; have B128 := N2; have GW128 := N3; have E128 := N4; have NB127_128 := N5; have NB128_127 := N6; clear N0 N1 N2 N3 N4 N5 N6 hb hbox hg; have hnb64 := NB127_128.out; have hnc64 := NB128_127.out; have hcz65_0 : w63.cell? ⟨g127, 0, none⟩ = some (I q aa0) := (bc B127.out 0).trans rfl; have hcz65_1 : w63.cell? ⟨g127, 1, none⟩ = some (I q aa1) := (bc B127.out 1).trans rfl; have hcz65_2 : w63.cell? ⟨g127, 2, none⟩ = some (I q aa2) := (bc B127.out 2).trans rfl; have hcz65_3 : w63.cell? ⟨g127, 3, none⟩ = some (I q aa3) := (bc B127.out 3).trans rfl; have hcz65_4 : w63.cell? ⟨g127, 4, none⟩ = some (I q aa4) := (bc B127.out 4).trans rfl; have hcz65_5 : w63.cell? ⟨g127, 5, none⟩ = some (J Aa5 la5.length ca5) := (bc B127.out 5).trans rfl; have hfz65_0 := bf B127.out 0; have hfz65_1 := bf B127.out 1; have hfz65_2 := bf B127.out 2; have hfz65_3 := bf B127.out 3; have hfz65_4 := bf B127.out 4; have hfz65_5 := bf B127.out 5) | ((with_reducible refine gate_callee (f := 15) rfl ?_); refine goesL_ (some 12) rfl rfl Try.func15 (by kernel_rfl) rfl #[.agg #[I q aa0, I q aa1, I q aa2, I q aa3, I q aa4, J Aa5 la5.length ca5], I q 1048576] rfl (by (try simp only [List.map_toArray, List.map_cons, List.map_nil]); first | done | rfl | (simp only [List.length_drop, List.length_take]; rfl)) ?_; (with_reducible refine (laws_szPacket.calls aa0 aa1 aa2 aa3 aa4 _ _ la5 1048576 t129 _ ?side1 ?side2 A3.out).mono ?_); (case side1 => repeat (first | exact (Kd.C_below HR0_5.out HB.out) | (with_reducible refine ca ?_ _) | (with_reducible refine cN ?_ _) | (with_reducible refine cd1 ?_))); (case side2 => exact HC0_5.out); rintro e w66 ⟨rfl, hb⟩; refine ⟨_, rfl, ?_⟩; have N0 := am (bb (g := g127) (o := .cells #[I q aa0, I q aa1, I q aa2, I q aa3, I q aa4, J Aa5 la5.length ca5] 24 (0, 0)) (by (with_reducible repeat (first | apply bN | apply bd | apply ba)); exact B127.out) hb); have N1 := am (bb (g := g128) (o := .cells #[I q ab0, I q ab1, I q ab2, I q ab3, I q ab4, J Ab5 lb5.length cb5] 24 (0, 0)) (by (with_reducible repeat (first | apply bN | apply bd | apply ba)); exact B128.out) hb); have N2 := am (bp (by repeat (first | (with_reducible first | exact HB.out | apply pa | apply pN | apply p1 | refine bs ?_ E127.out | refine bs ?_ E128.out) | exact HB.out)) hb); clear B127 B128 HB; have B127 := N0; have B128 := N1; have HB := N2; clear N0 N1 N2; (try clear hb); (try clear hb2); (try clear hk); (try clear hi); have hcz67_0 : w66.cell? ⟨g128, 0, none⟩ = some (I q ab0) := (bc B128.out 0).trans rfl; have hcz67_1 : w66.cell? ⟨g128, 1, none⟩ = some (I q ab1) := (bc B128.out 1).trans rfl; have hcz67_2 : w66.cell? ⟨g128, 2, none⟩ = some (I q ab2) := (bc B128.out 2).trans rfl; have hcz67_3 : w66.cell? ⟨g128, 3, none⟩ = some (I q ab3) := (bc B128.out 3).trans rfl; have hcz67_4 : w66.cell? ⟨g128, 4, none⟩ = some (I q ab4) := (bc B128.out 4).trans rfl; have hcz67_5 : w66.cell? ⟨g128, 5, none⟩ = some (J Ab5 lb5.length cb5) := (bc B128.out 5).trans rfl; have hfz67_0 := bf B128.out 0; have hfz67_1 := bf B128.out 1; have hfz67_2 := bf B128.out 2; have hfz67_3 := bf B128.out 3; have hfz67_4 := bf B128.out 4; have hfz67_5 := bf B128.out 5) | ((with_reducible refine gate_callee (f := 15) rfl ?_); refine goesL_ (some 17) rfl rfl Try.func15 (by kernel_rfl) rfl #[.agg #[I q ab0, I q ab1, I q ab2, I q ab3, I q ab4, J Ab5 lb5.length cb5], I q t129] rfl (by (try simp only [List.map_toArray, List.map_cons, List.map_nil]); first | done | rfl | (simp only [List.length_drop, List.length_take]; rfl)) ?_; (with_reducible refine (laws_szPacket.calls ab0 ab1 ab2 ab3 ab4 _ _ lb5 t129 t130 _ ?side1 ?side2 A10.out).mono ?_); (case side1 => repeat (first | exact (Kd.C_below HR1_5.out HB.out) | (with_reducible refine ca ?_ _) | (with_reducible refine cN ?_ _) | (with_reducible refine cd1 ?_))); (case side2 => exact HC1_5.out); rintro e w68 ⟨rfl, hb⟩; refine ⟨_, rfl, ?_⟩; have N0 := am (bb (g := g127) (o := .cells #[I q aa0, I q aa1, I q aa2, I q aa3, I q aa4, J Aa5 la5.length ca5] 24 (0, 0)) (by (with_reducible repeat (first | apply bN | apply bd | apply ba)); exact B127.out) hb); have N1 := am (bb (g := g128) (o := .cells #[I q ab0, I q ab1, I q ab2, I q ab3, I q ab4, J Ab5 lb5.length cb5] 24 (0, 0)) (by (with_reducible repeat (first | apply bN | apply bd | apply ba)); exact B128.out) hb); have N2 := am (bp (by repeat (first | (with_reducible first | exact HB.out | apply pa | apply pN | apply p1 | refine bs ?_ E127.out | refine bs ?_ E128.out) | exact HB.out)) hb); clear B127 B128 HB; have B127 := N0; have B128 := N1; have HB := N2; clear N0 N1 N2; (try clear hb); (try clear hb2); (try clear hk); (try clear hi)))
            have N0 := am (bd B127.out)
            have N1 := am (bd B128.out)
            have N2 := am (p1 HB.out)
            clear B127
            clear B128
            clear HB
            have B127 := N0
            have B128 := N1
            have HB := N2
            clear N0 N1 N2
            refine start_ (n := 6) (S := fun w' => w'.cell? ⟨g127, 0, none⟩ = some (I q aa0) ∧ w'.cell? ⟨g127, 1, none⟩ = some (I q aa1) ∧ w'.cell? ⟨g127, 2, none⟩ = some (I q aa2) ∧ w'.cell? ⟨g127, 3, none⟩ = some (I q aa3) ∧ w'.cell? ⟨g127, 4, none⟩ = some (I q aa4) ∧ w'.cell? ⟨g127, 5, none⟩ = some (J Aa5 la5.length ca5) ∧ w'.cell? ⟨g128, 0, none⟩ = some (I q ab0) ∧ w'.cell? ⟨g128, 1, none⟩ = some (I q ab1) ∧ w'.cell? ⟨g128, 2, none⟩ = some (I q ab2) ∧ w'.cell? ⟨g128, 3, none⟩ = some (I q ab3) ∧ w'.cell? ⟨g128, 4, none⟩ = some (I q ab4) ∧ w'.cell? ⟨g128, 5, none⟩ = some (J Ab5 lb5.length cb5)) (ds := []) #[false, false, false, false, false, false] (by kernel_rfl) rfl rfl ⟨(bc B127.out 0).trans rfl, (bc B127.out 1).trans rfl, (bc B127.out 2).trans rfl, (bc B127.out 3).trans rfl, (bc B127.out 4).trans rfl, (bc B127.out 5).trans rfl, (bc B128.out 0).trans rfl, (bc B128.out 1).trans rfl, (bc B128.out 2).trans rfl, (bc B128.out 3).trans rfl, (bc B128.out 4).trans rfl, (bc B128.out 5).trans rfl⟩ (fun hHeld => ?_)
            generalize w68.drew = w69 at B127 B128 HB hHeld ⊢
            refine take_ (i := 0) (N := some 20) (v := ?_) (a' := ?_) #[true, false, false, false, false, false] rfl rfl (by kernel_rfl) (fun _ _ _ h => h) (Or.inl ⟨by rfl, ?_⟩) hHeld ?_ ?_
            rotate_left
            · rintro w' ⟨s0, s1, s2, s3, s4, s5, s6, s7, s8, s9, s10, s11⟩
              go_simp
              with_reducible rfl
            rotate_left
            · simp only [Act.put, List.setIfInBounds_toArray, List.set_cons_zero, List.set_cons_succ, i64_w, i32_w]
              rfl
            refine take_ (i := 2) (N := some 22) (v := ?_) (a' := ?_) #[true, false, true, false, false, false] rfl rfl (by kernel_rfl) (fun _ _ _ h => h) (Or.inl ⟨by rfl, ?_⟩) hHeld ?_ ?_
            rotate_left
            · rintro w' ⟨s0, s1, s2, s3, s4, s5, s6, s7, s8, s9, s10, s11⟩
              go_simp
              with_reducible rfl
            rotate_left
            · simp only [Act.put, List.setIfInBounds_toArray, List.set_cons_zero, List.set_cons_succ, i64_w, i32_w]
              rfl
            refine one_ (i := 1) (N := some 21) #[true, true, true, false, false, false] rfl rfl (by kernel_rfl) (by decide) (fun K hK => ?_)
            refine goes_ Try.func17 (by kernel_rfl) rfl #[.agg #[I q aa0, I q aa1, I q aa2, I q aa3, I q aa4, J Aa5 la5.length ca5]] (by rfl) rfl rfl (by (try simp only [List.map_toArray, List.map_cons, List.map_nil]); first | done | rfl | (simp only [List.length_drop, List.length_take]; rfl)) ?_
            with_reducible refine (laws_toPacket.calls k aa0 aa1 aa2 aa3 aa4 _ _ la5 t131 t132 t133 t134 t135 t136 _ ?side1 ?side2 A19.out).mono ?_
            (case side1 => repeat (first | exact (Kd.C_below HR0_5.out HB.out) | (with_reducible refine ca ?_ _) | (with_reducible refine cN ?_ _) | (with_reducible refine cd1 ?_)))
            (case side2 => exact HC0_5.out)
            rintro e w70 ⟨v137, rfl, ho0, hb⟩
            refine ⟨_, rfl, ?_⟩
            have N0 := am (rw1 ho0 (bz (by repeat (first | (with_reducible first | exact HB.out | apply pa | apply pN | apply p1 | refine bs ?_ E127.out | refine bs ?_ E128.out) | exact HB.out))))
            have N1 := am (bb (g := g127) (o := .cells #[I q aa0, I q aa1, I q aa2, I q aa3, I q aa4, J Aa5 la5.length ca5] 24 (0, 0)) (by (with_reducible repeat (first | apply bN | apply bd | apply ba)); exact B127.out) hb)
            have N2 := am (bb (g := g128) (o := .cells #[I q ab0, I q ab1, I q ab2, I q ab3, I q ab4, J Ab5 lb5.length cb5] 24 (0, 0)) (by (with_reducible repeat (first | apply bN | apply bd | apply ba)); exact B128.out) hb)
            have N3 := am (bp (by repeat (first | (with_reducible first | exact HB.out | apply pa | apply pN | apply p1 | refine bs ?_ E127.out | refine bs ?_ E128.out) | exact HB.out)) hb)
            clear B127
            clear B128
            clear HB
            have O138 := N0
            have B127 := N1
            have B128 := N2
            have HB := N3
            clear N0 N1 N2 N3
            (try clear hb)
            (try clear hb2)
            (try clear hk)
            (try clear hi)
            (try clear ho0)
            refine hK.out _ _ ⟨(bc B127.out 0).trans rfl, (bc B127.out 1).trans rfl, (bc B127.out 2).trans rfl, (bc B127.out 3).trans rfl, (bc B127.out 4).trans rfl, (bc B127.out 5).trans rfl, (bc B128.out 0).trans rfl, (bc B128.out 1).trans rfl, (bc B128.out 2).trans rfl, (bc B128.out 3).trans rfl, (bc B128.out 4).trans rfl, (bc B128.out 5).trans rfl⟩ (fun hHeld => ?_)
            clear hK K
            refine norm_ (a' := ?_) ?_ ?_
            rotate_left
            · show Act.put _ (some 21) _ = _
              simp only [Act.put, List.setIfInBounds_toArray, List.set_cons_zero, List.set_cons_succ, i64_w, i32_w]
              rfl
            refine one_ (i := 3) (N := some 23) #[true, true, true, true, false, false] rfl rfl (by kernel_rfl) (by decide) (fun K hK => ?_)
            refine goes_ Try.func17 (by kernel_rfl) rfl #[.agg #[I q ab0, I q ab1, I q ab2, I q ab3, I q ab4, J Ab5 lb5.length cb5]] (by rfl) rfl rfl (by (try simp only [List.map_toArray, List.map_cons, List.map_nil]); first | done | rfl | (simp only [List.length_drop, List.length_take]; rfl)) ?_
            with_reducible refine (laws_toPacket.calls k ab0 ab1 ab2 ab3 ab4 _ _ lb5 t139 t140 t141 t142 t143 t144 _ ?side1 ?side2 A20.out).mono ?_
            (case side1 => repeat (first | exact (Kd.C_below HR1_5.out HB.out) | (with_reducible refine ca ?_ _) | (with_reducible refine cN ?_ _) | (with_reducible refine cd1 ?_)))
            (case side2 => exact HC1_5.out)
            rintro e w71 ⟨v145, rfl, ho0, hb⟩
            refine ⟨_, rfl, ?_⟩
            have N0 := am (re (by (with_reducible repeat (first | apply ra | apply rN | apply rd1)); exact O138.out) (Kd.R_base ho0) hb)
            have N1 := am (rw1 (rn ho0 (rl (by (with_reducible repeat (first | apply ra | apply rN | apply rd1)); exact O138.out))) (bz (by repeat (first | (with_reducible first | exact HB.out | apply pa | apply pN | apply p1 | refine bs ?_ E127.out | refine bs ?_ E128.out) | exact HB.out))))
            have N2 := am (bb (g := g127) (o := .cells #[I q aa0, I q aa1, I q aa2, I q aa3, I q aa4, J Aa5 la5.length ca5] 24 (0, 0)) (by (with_reducible repeat (first | apply bN | apply bd | apply ba)); exact B127.out) hb)
            have N3 := am (bb (g := g128) (o := .cells #[I q ab0, I q ab1, I q ab2, I q ab3, I q ab4, J Ab5 lb5.length cb5] 24 (0, 0)) (by (with_reducible repeat (first | apply bN | apply bd | apply ba)); exact B128.out) hb)
            have N4 := am (bp (by repeat (first | (with_reducible first | exact HB.out | apply pa | apply pN | apply p1 | refine bs ?_ E127.out | refine bs ?_ E128.out) | exact HB.out)) hb)
            clear O138
            clear B127
            clear B128
            clear HB
            have O138 := N0
            have O146 := N1
            have B127 := N2
            have B128 := N3
            have HB := N4
            clear N0 N1 N2 N3 N4
            (try clear hb)
            (try clear hb2)
            (try clear hk)
            (try clear hi)
            (try clear ho0)
            obtain ⟨Ao72, co72, eo72⟩ := Kd.R_slice O138.out
            (first | subst eo72 | (injection eo72 with f1_ f2_ f3_; have f4_ := f1_.symm; have f5_ := f3_.symm; clear f1_ f2_ f3_; subst f4_; subst f5_))
            obtain ⟨Ao73, co73, eo73⟩ := Kd.R_slice O146.out
            (first | subst eo73 | (injection eo73 with f1_ f2_ f3_; have f4_ := f1_.symm; have f5_ := f3_.symm; clear f1_ f2_ f3_; subst f4_; subst f5_))
            refine hK.out _ _ ⟨(bc B127.out 0).trans rfl, (bc B127.out 1).trans rfl, (bc B127.out 2).trans rfl, (bc B127.out 3).trans rfl, (bc B127.out 4).trans rfl, (bc B127.out 5).trans rfl, (bc B128.out 0).trans rfl, (bc B128.out 1).trans rfl, (bc B128.out 2).trans rfl, (bc B128.out 3).trans rfl, (bc B128.out 4).trans rfl, (bc B128.out 5).trans rfl⟩ (fun hHeld => ?_)
            clear hK K
            refine norm_ (a' := ?_) ?_ ?_
            rotate_left
            · show Act.put _ (some 23) _ = _
              simp only [Act.put, List.setIfInBounds_toArray, List.set_cons_zero, List.set_cons_succ, i64_w, i32_w]
              rfl
            refine one_ (i := 4) (N := some 24) #[true, true, true, true, true, false] rfl rfl (by kernel_rfl) (by decide) (fun K hK => ?_)
            refine goes_ Try.func16 (by kernel_rfl) rfl #[.agg #[I q t131, I q t132, I q t133, I q t134, I q t135, J Ao72 t136.length co72], .agg #[I q t139, I q t140, I q t141, I q t142, I q t143, J Ao73 t144.length co73]] (by rfl) rfl rfl (by (try simp only [List.map_toArray, List.map_cons, List.map_nil]); first | done | rfl | (simp only [List.length_drop, List.length_take]; rfl)) ?_
            with_reducible refine (spec_SamePacket.calls t131 t132 t133 t134 t135 _ _ t136 t139 t140 t141 t142 t143 _ _ t144 t147 _ ?side1 ?side2 ?side3 ?side4 A21.out).mono ?_
            (case side1 => repeat (first | exact (Kd.R_reads' O138.out).2.2 | (with_reducible refine ca ?_ _) | (with_reducible refine cN ?_ _) | (with_reducible refine cd1 ?_)))
            (case side2 => exact (Kd.R_reads' O138.out).2.1)
            (case side3 => repeat (first | exact (Kd.R_reads' O146.out).2.2 | (with_reducible refine ca ?_ _) | (with_reducible refine cN ?_ _) | (with_reducible refine cd1 ?_)))
            (case side4 => exact (Kd.R_reads' O146.out).2.1)
            rintro e w74 ⟨rfl, hb⟩
            refine ⟨_, rfl, ?_⟩
            have N0 := am (rb (by (with_reducible repeat (first | apply ra | apply rN | apply rd1)); exact O138.out) hb)
            have N1 := am (rb (by (with_reducible repeat (first | apply ra | apply rN | apply rd1)); exact O146.out) hb)
            have N2 := am (bb (g := g127) (o := .cells #[I q aa0, I q aa1, I q aa2, I q aa3, I q aa4, J Aa5 la5.length ca5] 24 (0, 0)) (by (with_reducible repeat (first | apply bN | apply bd | apply ba)); exact B127.out) hb)
            have N3 := am (bb (g := g128) (o := .cells #[I q ab0, I q ab1, I q ab2, I q ab3, I q ab4, J Ab5 lb5.length cb5] 24 (0, 0)) (by (with_reducible repeat (first | apply bN | apply bd | apply ba)); exact B128.out) hb)
            have N4 := am (bp (by repeat (first | (with_reducible first | exact HB.out | apply pa | apply pN | apply p1 | refine bs ?_ E127.out | refine bs ?_ E128.out) | exact HB.out)) hb)
            clear O138
            clear O146
            clear B127
            clear B128
            clear HB
            have O138 := N0
            have O146 := N1
            have B127 := N2
            have B128 := N3
            have HB := N4
            clear N0 N1 N2 N3 N4
            (try clear hb)
            (try clear hb2)
            (try clear hk)
            (try clear hi)
            refine hK.out _ _ ⟨(bc B127.out 0).trans rfl, (bc B127.out 1).trans rfl, (bc B127.out 2).trans rfl, (bc B127.out 3).trans rfl, (bc B127.out 4).trans rfl, (bc B127.out 5).trans rfl, (bc B128.out 0).trans rfl, (bc B128.out 1).trans rfl, (bc B128.out 2).trans rfl, (bc B128.out 3).trans rfl, (bc B128.out 4).trans rfl, (bc B128.out 5).trans rfl⟩ (fun hHeld => ?_)
            clear hK K
            refine norm_ (a' := ?_) ?_ ?_
            rotate_left
            · show Act.put _ (some 24) _ = _
              simp only [Act.put, List.setIfInBounds_toArray, List.set_cons_zero, List.set_cons_succ, i64_w, i32_w]
              rfl
            refine pure_ (i := 5) (N := some 6) (v := ?_) (a' := ?_) #[true, true, true, true, true, true] rfl rfl (by kernel_rfl) (fun _ _ _ h => h) (Or.inl ⟨by rfl, ?_⟩) ?_ ?_
            rotate_left
            · intro w'
              first | (go_simp; with_reducible rfl) | (go_simp; (try unfold Instr.field); go_simp; (try simp only [asAgg]); go_simp; with_reducible rfl)
            rotate_left
            · simp only [Act.put, List.setIfInBounds_toArray, List.set_cons_zero, List.set_cons_succ, i64_w, i32_w]
              rfl
            refine done_ (by kernel_rfl) ?_
            have hcz75_0 : w74.cell? ⟨g127, 0, none⟩ = some (I q aa0) := (bc B127.out 0).trans rfl
            have hcz75_1 : w74.cell? ⟨g127, 1, none⟩ = some (I q aa1) := (bc B127.out 1).trans rfl
            have hcz75_2 : w74.cell? ⟨g127, 2, none⟩ = some (I q aa2) := (bc B127.out 2).trans rfl
            have hcz75_3 : w74.cell? ⟨g127, 3, none⟩ = some (I q aa3) := (bc B127.out 3).trans rfl
            have hcz75_4 : w74.cell? ⟨g127, 4, none⟩ = some (I q aa4) := (bc B127.out 4).trans rfl
            have hcz75_5 : w74.cell? ⟨g127, 5, none⟩ = some (J Aa5 la5.length ca5) := (bc B127.out 5).trans rfl
            have hfz75_0 := bf B127.out 0
            have hfz75_1 := bf B127.out 1
            have hfz75_2 := bf B127.out 2
            have hfz75_3 := bf B127.out 3
            have hfz75_4 := bf B127.out 4
            have hfz75_5 := bf B127.out 5
            try go_wp2_with (first | ((with_reducible refine gate_callee (f := 17) rfl ?_); refine goesL_ (some 26) rfl rfl Try.func17 (by kernel_rfl) rfl #[.agg #[I q aa0, I q aa1, I q aa2, I q aa3, I q aa4, J Aa5 la5.length ca5]] rfl (by (try simp only [List.map_toArray, List.map_cons, List.map_nil]); first | done | rfl | (simp only [List.length_drop, List.length_take]; rfl)) ?_; (with_reducible refine (laws_toPacket.calls k aa0 aa1 aa2 aa3 aa4 _ _ la5 t148 t149 t150 t151 t152 t153 _ ?side1 ?side2 A22.out).mono ?_); (case side1 => repeat (first | exact (Kd.C_below HR0_5.out HB.out) | (with_reducible refine ca ?_ _) | (with_reducible refine cN ?_ _) | (with_reducible refine cd1 ?_))); (case side2 => exact HC0_5.out); rintro e w76 ⟨v154, rfl, ho0, hb⟩; refine ⟨_, rfl, ?_⟩; have N0 := am (re (by (with_reducible repeat (first | apply ra | apply rN | apply rd1)); exact O138.out) (Kd.R_base ho0) hb); have N1 := am (re (by (with_reducible repeat (first | apply ra | apply rN | apply rd1)); exact O146.out) (Kd.R_base ho0) hb); have N2 := am (rw1 (rn (rn ho0 (rl (by (with_reducible repeat (first | apply ra | apply rN | apply rd1)); exact O138.out))) (rl (by (with_reducible repeat (first | apply ra | apply rN | apply rd1)); exact O146.out))) (bz (by repeat (first | (with_reducible first | exact HB.out | apply pa | apply pN | apply p1 | refine bs ?_ E127.out | refine bs ?_ E128.out) | exact HB.out)))); have N3 := am (bb (g := g127) (o := .cells #[I q aa0, I q aa1, I q aa2, I q aa3, I q aa4, J Aa5 la5.length ca5] 24 (0, 0)) (by (with_reducible repeat (first | apply bN | apply bd | apply ba)); exact B127.out) hb); have N4 := am (bb (g := g128) (o := .cells #[I q ab0, I q ab1, I q ab2, I q ab3, I q ab4, J Ab5 lb5.length cb5] 24 (0, 0)) (by (with_reducible repeat (first | apply bN | apply bd | apply ba)); exact B128.out) hb); have N5 := am (bp (by repeat (first | (with_reducible first | exact HB.out | apply pa | apply pN | apply p1 | refine bs ?_ E127.out | refine bs ?_ E128.out) | exact HB.out)) hb); clear O138 O146 B127 B128 HB; have O138 := N0; have O146 := N1; have O155 := N2; have B127 := N3; have B128 := N4; have HB := N5; clear N0 N1 N2 N3 N4 N5; (try clear hb); (try clear hb2); (try clear hk); (try clear hi); (try clear ho0)) | ((with_reducible refine gate_dst (N := 7) rfl ?_); refine box_event ?hg (N := 7) ?hd (cs := #[I q 0, I q 0, I q 0, I q 0, I q 0, .slice none 0 0]) (t := 27) ?hr ?_; (case hd => rfl); (case hg => rfl); (case hr => first | (go_simp; done) | (go_simp; rfl)); intro g156 hg w77 hbox hb; have N0 := am (rb (by (with_reducible repeat (first | apply ra | apply rN | apply rd1)); exact O138.out) hb); have N1 := am (rb (by (with_reducible repeat (first | apply ra | apply rN | apply rd1)); exact O146.out) hb); have N2 := am (rb (by (with_reducible repeat (first | apply ra | apply rN | apply rd1)); exact O155.out) hb); have N3 := am (bb (g := g127) (o := .cells #[I q aa0, I q aa1, I q aa2, I q aa3, I q aa4, J Aa5 la5.length ca5] 24 (0, 0)) (by (with_reducible repeat (first | apply bN | apply bd | apply ba)); exact B127.out) hb); have N4 := am (bb (g := g128) (o := .cells #[I q ab0, I q ab1, I q ab2, I q ab3, I q ab4, J Ab5 lb5.length cb5] 24 (0, 0)) (by (with_reducible repeat (first | apply bN | apply bd | apply ba)); exact B128.out) hb); have N5 := am (bp (by repeat (first | (with_reducible first | exact HB.out | apply pa | apply pN | apply p1 | refine bs ?_ E127.out | refine bs ?_ E128.out) | exact HB.out)) hb); have N6 := am (hbox); have N7 := am ((by rw [hg]; exact (bz (by repeat (first | (with_reducible first | exact HB.out | apply pa | apply pN | apply p1 | refine bs ?_ E127.out | refine bs ?_ E128.out) | exact HB.out))) : w.heap.size ≤ g156)); have N8 := am ((by rw [hg]; exact (bz (by repeat (first | (with_reducible first | exact HB.out | apply pa | apply pN | apply p1 | refine bs ?_ E127.out | refine bs ?_ E128.out) | exact HB.out))) : w.heap.size ≤ g156)); have N9 := am ((by rw [hg]; exact Nat.ne_of_lt (bl (g := g127) (o := .cells #[I q aa0, I q aa1, I q aa2, I q aa3, I q aa4, J Aa5 la5.length ca5] 24 (0, 0)) (by (with_reducible repeat (first | apply bN | apply bd | apply ba)); exact B127.out)) : g127 ≠ g156)); have N10 := am ((by rw [hg]; exact Nat.ne_of_gt (bl (g := g127) (o := .cells #[I q aa0, I q aa1, I q aa2, I q aa3, I q aa4, J Aa5 la5.length ca5] 24 (0, 0)) (by (with_reducible repeat (first | apply bN | apply bd | apply ba)); exact B127.out)) : g156 ≠ g127)); have N11 := am ((by rw [hg]; exact Nat.ne_of_lt (bl (g := g128) (o := .cells #[I q ab0, I q ab1, I q ab2, I q ab3, I q ab4, J Ab5 lb5.length cb5] 24 (0, 0)) (by (with_reducible repeat (first | apply bN | apply bd | apply ba)); exact B128.out)) : g128 ≠ g156)); have N12 := am ((by rw [hg]; exact Nat.ne_of_gt (bl (g := g128) (o := .cells #[I q ab0, I q ab1, I q ab2, I q ab3, I q ab4, J Ab5 lb5.length cb5] 24 (0, 0)) (by (with_reducible repeat (first | apply bN | apply bd | apply ba)); exact B128.out)) : g156 ≠ g128)); clear O138 O146 O155 B127 B128 HB; have O138 := N0; have O146 := N1; have O155 := N2; have B127 := N3; have B128 := N4; have HB := N5; have B156 := N6; have GW156 := N7; have E156 := N8; have NB127_156 := N9; have NB156_127 := N10; have NB128_156 := N11; have NB156_128 := N12; clear N0 N1 N2 N3 N4 N5 N6 N7 N8 N9 N10 N11 N12 hb hbox hg; have hnb78 := NB156_127.out; have hnc78 := NB127_156.out; have hnb79 := NB156_128.out; have hnc79 := NB128_156.out; have hcz80_0 : w77.cell? ⟨g156, 0, none⟩ = some (I q 0) := (bc B156.out 0).trans rfl; have hcz80_1 : w77.cell? ⟨g156, 1, none⟩ = some (I q 0) := (bc B156.out 1).trans rfl; have hcz80_2 : w77.cell? ⟨g156, 2, none⟩ = some (I q 0) := (bc B156.out 2).trans rfl; have hcz80_3 : w77.cell? ⟨g156, 3, none⟩ = some (I q 0) := (bc B156.out 3).trans rfl; have hcz80_4 : w77.cell? ⟨g156, 4, none⟩ = some (I q 0) := (bc B156.out 4).trans rfl; have hcz80_5 : w77.cell? ⟨g156, 5, none⟩ = some (.slice none 0 0) := (bc B156.out 5).trans rfl; have hfz80_0 := bf B156.out 0; have hfz80_1 := bf B156.out 1; have hfz80_2 := bf B156.out 2; have hfz80_3 := bf B156.out 3; have hfz80_4 := bf B156.out 4; have hfz80_5 := bf B156.out 5; obtain ⟨Ao81, co81, eo81⟩ := Kd.R_slice O155.out; subst eo81; have hcz82_0 : w77.cell? ⟨g128, 0, none⟩ = some (I q ab0) := (bc B128.out 0).trans rfl; have hcz82_1 : w77.cell? ⟨g128, 1, none⟩ = some (I q ab1) := (bc B128.out 1).trans rfl; have hcz82_2 : w77.cell? ⟨g128, 2, none⟩ = some (I q ab2) := (bc B128.out 2).trans rfl; have hcz82_3 : w77.cell? ⟨g128, 3, none⟩ = some (I q ab3) := (bc B128.out 3).trans rfl; have hcz82_4 : w77.cell? ⟨g128, 4, none⟩ = some (I q ab4) := (bc B128.out 4).trans rfl; have hcz82_5 : w77.cell? ⟨g128, 5, none⟩ = some (J Ab5 lb5.length cb5) := (bc B128.out 5).trans rfl; have hfz82_0 := bf B128.out 0; have hfz82_1 := bf B128.out 1; have hfz82_2 := bf B128.out 2; have hfz82_3 := bf B128.out 3; have hfz82_4 := bf B128.out 4; have hfz82_5 := bf B128.out 5) | ((with_reducible refine gate_callee (f := 17) rfl ?_); refine goesL_ (some 28) rfl rfl Try.func17 (by kernel_rfl) rfl #[.agg #[I q ab0, I q ab1, I q ab2, I q ab3, I q ab4, J Ab5 lb5.length cb5]] rfl (by (try simp only [List.map_toArray, List.map_cons, List.map_nil]); first | done | rfl | (simp only [List.length_drop, List.length_take]; rfl)) ?_; (with_reducible refine (laws_toPacket.calls k ab0 ab1 ab2 ab3 ab4 _ _ lb5 t157 t158 t159 t160 t161 t162 _ ?side1 ?side2 A23.out).mono ?_); (case side1 => exact Kd.C_below HR1_5.out (by repeat (first | (with_reducible first | exact HB.out | apply pa | apply pN | apply p1 | refine bs ?_ E127.out | refine bs ?_ E128.out | refine bs ?_ E156.out) | exact HB.out))); (case side2 => exact HC1_5.out); rintro e w83 ⟨v163, rfl, ho0, hb⟩; refine ⟨_, rfl, ?_⟩; have N0 := am (re (by (with_reducible repeat (first | apply ra | apply rN | apply rd1)); exact (Kd.R_mono (rf (p := ⟨g156, 5, none⟩) (rf (p := ⟨g156, 4, none⟩) (rf (p := ⟨g156, 3, none⟩) (rf (p := ⟨g156, 2, none⟩) (rf (p := ⟨g156, 1, none⟩) (rf (p := ⟨g156, 0, none⟩) (Kd.R_types O138.out B156.out (by decide)) (fun _ hk => hk.2) (I q t148)) (fun _ hk => hk.2) (I q t149)) (fun _ hk => hk.2) (I q t150)) (fun _ hk => hk.2) (I q t151)) (fun _ hk => hk.2) (I q t152)) (fun _ hk => hk.2) (J Ao81 t153.length co81)) (fun _ h_ => h_.1))) (Kd.R_base ho0) hb); have N1 := am (re (by (with_reducible repeat (first | apply ra | apply rN | apply rd1)); exact (Kd.R_mono (rf (p := ⟨g156, 5, none⟩) (rf (p := ⟨g156, 4, none⟩) (rf (p := ⟨g156, 3, none⟩) (rf (p := ⟨g156, 2, none⟩) (rf (p := ⟨g156, 1, none⟩) (rf (p := ⟨g156, 0, none⟩) (Kd.R_types O146.out B156.out (by decide)) (fun _ hk => hk.2) (I q t148)) (fun _ hk => hk.2) (I q t149)) (fun _ hk => hk.2) (I q t150)) (fun _ hk => hk.2) (I q t151)) (fun _ hk => hk.2) (I q t152)) (fun _ hk => hk.2) (J Ao81 t153.length co81)) (fun _ h_ => h_.1))) (Kd.R_base ho0) hb); have N2 := am (re (by (with_reducible repeat (first | apply ra | apply rN | apply rd1)); exact (Kd.R_mono (rf (p := ⟨g156, 5, none⟩) (rf (p := ⟨g156, 4, none⟩) (rf (p := ⟨g156, 3, none⟩) (rf (p := ⟨g156, 2, none⟩) (rf (p := ⟨g156, 1, none⟩) (rf (p := ⟨g156, 0, none⟩) (Kd.R_types O155.out B156.out (by decide)) (fun _ hk => hk.2) (I q t148)) (fun _ hk => hk.2) (I q t149)) (fun _ hk => hk.2) (I q t150)) (fun _ hk => hk.2) (I q t151)) (fun _ hk => hk.2) (I q t152)) (fun _ hk => hk.2) (J Ao81 t153.length co81)) (fun _ h_ => h_.1))) (Kd.R_base ho0) hb); have N3 := am (rw1 (rn (rn (rn ho0 (rl (by (with_reducible repeat (first | apply ra | apply rN | apply rd1)); exact (Kd.R_mono (rf (p := ⟨g156, 5, none⟩) (rf (p := ⟨g156, 4, none⟩) (rf (p := ⟨g156, 3, none⟩) (rf (p := ⟨g156, 2, none⟩) (rf (p := ⟨g156, 1, none⟩) (rf (p := ⟨g156, 0, none⟩) (Kd.R_types O138.out B156.out (by decide)) (fun _ hk => hk.2) (I q t148)) (fun _ hk => hk.2) (I q t149)) (fun _ hk => hk.2) (I q t150)) (fun _ hk => hk.2) (I q t151)) (fun _ hk => hk.2) (I q t152)) (fun _ hk => hk.2) (J Ao81 t153.length co81)) (fun _ h_ => h_.1))))) (rl (by (with_reducible repeat (first | apply ra | apply rN | apply rd1)); exact (Kd.R_mono (rf (p := ⟨g156, 5, none⟩) (rf (p := ⟨g156, 4, none⟩) (rf (p := ⟨g156, 3, none⟩) (rf (p := ⟨g156, 2, none⟩) (rf (p := ⟨g156, 1, none⟩) (rf (p := ⟨g156, 0, none⟩) (Kd.R_types O146.out B156.out (by decide)) (fun _ hk => hk.2) (I q t148)) (fun _ hk => hk.2) (I q t149)) (fun _ hk => hk.2) (I q t150)) (fun _ hk => hk.2) (I q t151)) (fun _ hk => hk.2) (I q t152)) (fun _ hk => hk.2) (J Ao81 t153.length co81)) (fun _ h_ => h_.1))))) (rl (by (with_reducible repeat (first | apply ra | apply rN | apply rd1)); exact (Kd.R_mono (rf (p := ⟨g156, 5, none⟩) (rf (p := ⟨g156, 4, none⟩) (rf (p := ⟨g156, 3, none⟩) (rf (p := ⟨g156, 2, none⟩) (rf (p := ⟨g156, 1, none⟩) (rf (p := ⟨g156, 0, none⟩) (Kd.R_types O155.out B156.out (by decide)) (fun _ hk => hk.2) (I q t148)) (fun _ hk => hk.2) (I q t149)) (fun _ hk => hk.2) (I q t150)) (fun _ hk => hk.2) (I q t151)) (fun _ hk => hk.2) (I q t152)) (fun _ hk => hk.2) (J Ao81 t153.length co81)) (fun _ h_ => h_.1))))) (bz (by repeat (first | (with_reducible first | exact HB.out | apply pa | apply pN | apply p1 | refine bs ?_ E127.out | refine bs ?_ E128.out | refine bs ?_ E156.out) | exact HB.out)))); have N4 := am (bb (g := g127) (o := .cells #[I q aa0, I q aa1, I q aa2, I q aa3, I q aa4, J Aa5 la5.length ca5] 24 (0, 0)) (by (with_reducible repeat (first | apply bN | apply bd | apply ba)); refine bq ?_ NB127_156.out _; (with_reducible repeat (first | apply bN | apply bd | apply ba)); refine bq ?_ NB127_156.out _; (with_reducible repeat (first | apply bN | apply bd | apply ba)); refine bq ?_ NB127_156.out _; (with_reducible repeat (first | apply bN | apply bd | apply ba)); refine bq ?_ NB127_156.out _; (with_reducible repeat (first | apply bN | apply bd | apply ba)); refine bq ?_ NB127_156.out _; (with_reducible repeat (first | apply bN | apply bd | apply ba)); refine bq ?_ NB127_156.out _; (with_reducible repeat (first | apply bN | apply bd | apply ba)); exact B127.out) hb); have N5 := am (bb (g := g128) (o := .cells #[I q ab0, I q ab1, I q ab2, I q ab3, I q ab4, J Ab5 lb5.length cb5] 24 (0, 0)) (by (with_reducible repeat (first | apply bN | apply bd | apply ba)); refine bq ?_ NB128_156.out _; (with_reducible repeat (first | apply bN | apply bd | apply ba)); refine bq ?_ NB128_156.out _; (with_reducible repeat (first | apply bN | apply bd | apply ba)); refine bq ?_ NB128_156.out _; (with_reducible repeat (first | apply bN | apply bd | apply ba)); refine bq ?_ NB128_156.out _; (with_reducible repeat (first | apply bN | apply bd | apply ba)); refine bq ?_ NB128_156.out _; (with_reducible repeat (first | apply bN | apply bd | apply ba)); refine bq ?_ NB128_156.out _; (with_reducible repeat (first | apply bN | apply bd | apply ba)); exact B128.out) hb); have N6 := am (bb (g := g156) (o := .cells #[I q t148, I q t149, I q t150, I q t151, I q t152, J Ao81 t153.length co81] 27 (0, 0)) (by (with_reducible repeat (first | apply bN | apply bd | apply ba)); refine blk_put (cs := #[I q t148, I q t149, I q t150, I q t151, I q t152, .slice none 0 0]) ?_ 5 _ rfl; (with_reducible repeat (first | apply bN | apply bd | apply ba)); refine blk_put (cs := #[I q t148, I q t149, I q t150, I q t151, I q 0, .slice none 0 0]) ?_ 4 _ rfl; (with_reducible repeat (first | apply bN | apply bd | apply ba)); refine blk_put (cs := #[I q t148, I q t149, I q t150, I q 0, I q 0, .slice none 0 0]) ?_ 3 _ rfl; (with_reducible repeat (first | apply bN | apply bd | apply ba)); refine blk_put (cs := #[I q t148, I q t149, I q 0, I q 0, I q 0, .slice none 0 0]) ?_ 2 _ rfl; (with_reducible repeat (first | apply bN | apply bd | apply ba)); refine blk_put (cs := #[I q t148, I q 0, I q 0, I q 0, I q 0, .slice none 0 0]) ?_ 1 _ rfl; (with_reducible repeat (first | apply bN | apply bd | apply ba)); refine blk_put (cs := #[I q 0, I q 0, I q 0, I q 0, I q 0, .slice none 0 0]) ?_ 0 _ rfl; (with_reducible repeat (first | apply bN | apply bd | apply ba)); exact B156.out) hb); have N7 := am (bp (by repeat (first | (with_reducible first | exact HB.out | apply pa | apply pN | apply p1 | refine bs ?_ E127.out | refine bs ?_ E128.out | refine bs ?_ E156.out) | exact HB.out)) hb); clear O138 O146 O155 B127 B128 B156 HB; have O138 := N0; have O146 := N1; have O155 := N2; have O164 := N3; have B127 := N4; have B128 := N5; have B156 := N6; have HB := N7; clear N0 N1 N2 N3 N4 N5 N6 N7; (try clear hb); (try clear hb2); (try clear hk); (try clear hi); (try clear ho0)) | ((with_reducible refine gate_dst (N := 8) rfl ?_); refine box_event ?hg (N := 8) ?hd (cs := #[I q 0, I q 0, I q 0, I q 0, I q 0, .slice none 0 0]) (t := 27) ?hr ?_; (case hd => rfl); (case hg => rfl); (case hr => first | (go_simp; done) | (go_simp; rfl)); intro g165 hg w84 hbox hb; have N0 := am (rb (by (with_reducible repeat (first | apply ra | apply rN | apply rd1)); exact O138.out) hb); have N1 := am (rb (by (with_reducible repeat (first | apply ra | apply rN | apply rd1)); exact O146.out) hb); have N2 := am (rb (by (with_reducible repeat (first | apply ra | apply rN | apply rd1)); exact O155.out) hb); have N3 := am (rb (by (with_reducible repeat (first | apply ra | apply rN | apply rd1)); exact O164.out) hb); have N4 := am (bb (g := g127) (o := .cells #[I q aa0, I q aa1, I q aa2, I q aa3, I q aa4, J Aa5 la5.length ca5] 24 (0, 0)) (by (with_reducible repeat (first | apply bN | apply bd | apply ba)); exact B127.out) hb); have N5 := am (bb (g := g128) (o := .cells #[I q ab0, I q ab1, I q ab2, I q ab3, I q ab4, J Ab5 lb5.length cb5] 24 (0, 0)) (by (with_reducible repeat (first | apply bN | apply bd | apply ba)); exact B128.out) hb); have N6 := am (bb (g := g156) (o := .cells #[I q t148, I q t149, I q t150, I q t151, I q t152, J Ao81 t153.length co81] 27 (0, 0)) (by (with_reducible repeat (first | apply bN | apply bd | apply ba)); exact B156.out) hb); have N7 := am (bp (by repeat (first | (with_reducible first | exact HB.out | apply pa | apply pN | apply p1 | refine bs ?_ E127.out | refine bs ?_ E128.out | refine bs ?_ E156.out) | exact HB.out)) hb); have N8 := am (hbox); have N9 := am ((by rw [hg]; exact (bz (by repeat (first | (with_reducible first | exact HB.out | apply pa | apply pN | apply p1 | refine bs ?_ E127.out | refine bs ?_ E128.out | refine bs ?_ E156.out) | exact HB.out))) : w.heap.size ≤ g165)); have N10 := am ((by rw [hg]; exact (bz (by repeat (first | (with_reducible first | exact HB.out | apply pa | apply pN | apply p1 | refine bs ?_ E127.out | refine bs ?_ E128.out | refine bs ?_ E156.out) | exact HB.out))) : w.heap.size ≤ g165)); have N11 := am ((by rw [hg]; exact Nat.ne_of_lt (bl (g := g127) (o := .cells #[I q aa0, I q aa1, I q aa2, I q aa3, I q aa4, J Aa5 la5.length ca5] 24 (0, 0)) (by (with_reducible repeat (first | apply bN | apply bd | apply ba)); exact B127.out)) : g127 ≠ g165)); have N12 := am ((by rw [hg]; exact Nat.ne_of_gt (bl (g := g127) (o := .cells #[I q aa0, I q aa1, I q aa2, I q aa3, I q aa4, J Aa5 la5.length ca5] 24 (0, 0)) (by (with_reducible repeat (first | apply bN | apply bd | apply ba)); exact B127.out)) : g165 ≠ g127)); have N13 := am ((by rw [hg]; exact Nat.ne_of_lt (bl (g := g128) (o := .cells #[I q ab0, I q ab1, I q ab2, I q ab3, I q ab4, J Ab5 lb5.length cb5] 24 (0, 0)) (by (with_reducible repeat (first | apply bN | apply bd | apply ba)); exact B128.out)) : g128 ≠ g165)); have N14 := am ((by rw [hg]; exact Nat.ne_of_gt (bl (g := g128) (o := .cells #[I q ab0, I q ab1, I q ab2, I q ab3, I q ab4, J Ab5 lb5.length cb5] 24 (0, 0)) (by (with_reducible repeat (first | apply bN | apply bd | apply ba)); exact B128.out)) : g165 ≠ g128)); have N15 := am ((by rw [hg]; exact Nat.ne_of_lt (bl (g := g156) (o := .cells #[I q t148, I q t149, I q t150, I q t151, I q t152, J Ao81 t153.length co81] 27 (0, 0)) (by (with_reducible repeat (first | apply bN | apply bd | apply ba)); exact B156.out)) : g156 ≠ g165)); have N16 := am ((by rw [hg]; exact Nat.ne_of_gt (bl (g := g156) (o := .cells #[I q t148, I q t149, I q t150, I q t151, I q t152, J Ao81 t153.length co81] 27 (0, 0)) (by (with_reducible repeat (first | apply bN | apply bd | apply ba)); exact B156.out)) : g165 ≠ g156)); clear O138 O146 O155 O164 B127 B128 B156 HB; have O138 := N0; have O146 := N1; have O155 := N2; have O164 := N3; have B127 := N4; have B128 := N5; have B156 := N6; have HB := N7; have B165 := N8; have GW165 := N9; have E165 := N10; have NB127_165 := N11; have NB165_127 := N12; have NB128_165 := N13; have NB165_128 := N14; have NB156_165 := N15; have NB165_156 := N16; clear N0 N1 N2 N3 N4 N5 N6 N7 N8 N9 N10 N11 N12 N13 N14 N15 N16 hb hbox hg; have hnb85 := NB165_127.out; have hnc85 := NB127_165.out; have hnb86 := NB165_128.out; have hnc86 := NB128_165.out; have hnb87 := NB165_156.out; have hnc87 := NB156_165.out; have hcz88_0 : w84.cell? ⟨g165, 0, none⟩ = some (I q 0) := (bc B165.out 0).trans rfl; have hcz88_1 : w84.cell? ⟨g165, 1, none⟩ = some (I q 0) := (bc B165.out 1).trans rfl; have hcz88_2 : w84.cell? ⟨g165, 2, none⟩ = some (I q 0) := (bc B165.out 2).trans rfl; have hcz88_3 : w84.cell? ⟨g165, 3, none⟩ = some (I q 0) := (bc B165.out 3).trans rfl; have hcz88_4 : w84.cell? ⟨g165, 4, none⟩ = some (I q 0) := (bc B165.out 4).trans rfl; have hcz88_5 : w84.cell? ⟨g165, 5, none⟩ = some (.slice none 0 0) := (bc B165.out 5).trans rfl; have hfz88_0 := bf B165.out 0; have hfz88_1 := bf B165.out 1; have hfz88_2 := bf B165.out 2; have hfz88_3 := bf B165.out 3; have hfz88_4 := bf B165.out 4; have hfz88_5 := bf B165.out 5; obtain ⟨Ao89, co89, eo89⟩ := Kd.R_slice O164.out; subst eo89; have hcz90_0 : w84.cell? ⟨g156, 0, none⟩ = some (I q t148) := (bc B156.out 0).trans rfl; have hcz90_1 : w84.cell? ⟨g156, 1, none⟩ = some (I q t149) := (bc B156.out 1).trans rfl; have hcz90_2 : w84.cell? ⟨g156, 2, none⟩ = some (I q t150) := (bc B156.out 2).trans rfl; have hcz90_3 : w84.cell? ⟨g156, 3, none⟩ = some (I q t151) := (bc B156.out 3).trans rfl; have hcz90_4 : w84.cell? ⟨g156, 4, none⟩ = some (I q t152) := (bc B156.out 4).trans rfl; have hcz90_5 : w84.cell? ⟨g156, 5, none⟩ = some (J Ao81 t153.length co81) := (bc B156.out 5).trans rfl; have hfz90_0 := bf B156.out 0; have hfz90_1 := bf B156.out 1; have hfz90_2 := bf B156.out 2; have hfz90_3 := bf B156.out 3; have hfz90_4 := bf B156.out 4; have hfz90_5 := bf B156.out 5) | ((with_reducible refine gate_callee (f := 18) rfl ?_); refine goesL_ (some 31) rfl rfl Try.func18 (by kernel_rfl) rfl #[.agg #[I q t148, I q t149, I q t150, I q t151, I q t152, J Ao81 t153.length co81], .agg #[I q t157, I q t158, I q t159, I q t160, I q t161, J Ao89 t162.length co89]] rfl (by (try simp only [List.map_toArray, List.map_cons, List.map_nil]); first | done | rfl | (simp only [List.length_drop, List.length_take]; rfl)) ?_; (with_reducible refine (impl_SamePacket.calls t148 t149 t150 t151 t152 _ _ t153 t157 t158 t159 t160 t161 _ _ t162 t166 _ ?side1 ?side2 ?side3 ?side4 A24.out).mono ?_); (case side1 => refine (Kd.R_reads' (e := 5) (base := w.heap.size) (ok := fun k_ => (((True ∧ some k_ ≠ (J Ao72 t136.length co72 : Value).ownBlock) ∧ some k_ ≠ (J Ao73 t144.length co73 : Value).ownBlock) ∧ some k_ ≠ (J Ao89 t162.length co89 : Value).ownBlock)) (n := t153.length) (c := co81) ?_).2.2; exact (by (with_reducible repeat (first | apply ra | apply rN | apply rd1)); exact (Kd.R_mono (rf (p := ⟨g165, 5, none⟩) (rf (p := ⟨g165, 4, none⟩) (rf (p := ⟨g165, 3, none⟩) (rf (p := ⟨g165, 2, none⟩) (rf (p := ⟨g165, 1, none⟩) (rf (p := ⟨g165, 0, none⟩) (Kd.R_types O155.out B165.out (by decide)) (fun _ hk => hk.2) (I q t157)) (fun _ hk => hk.2) (I q t158)) (fun _ hk => hk.2) (I q t159)) (fun _ hk => hk.2) (I q t160)) (fun _ hk => hk.2) (I q t161)) (fun _ hk => hk.2) (J Ao89 t162.length co89)) (fun _ h_ => h_.1)))); (case side2 => exact (Kd.R_reads' O155.out).2.1); (case side3 => refine (Kd.R_reads' (e := 5) (base := w.heap.size) (ok := fun k_ => (((True ∧ some k_ ≠ (J Ao72 t136.length co72 : Value).ownBlock) ∧ some k_ ≠ (J Ao73 t144.length co73 : Value).ownBlock) ∧ some k_ ≠ (J Ao81 t153.length co81 : Value).ownBlock)) (n := t162.length) (c := co89) ?_).2.2; exact (by (with_reducible repeat (first | apply ra | apply rN | apply rd1)); exact (Kd.R_mono (rf (p := ⟨g165, 5, none⟩) (rf (p := ⟨g165, 4, none⟩) (rf (p := ⟨g165, 3, none⟩) (rf (p := ⟨g165, 2, none⟩) (rf (p := ⟨g165, 1, none⟩) (rf (p := ⟨g165, 0, none⟩) (Kd.R_types O164.out B165.out (by decide)) (fun _ hk => hk.2) (I q t157)) (fun _ hk => hk.2) (I q t158)) (fun _ hk => hk.2) (I q t159)) (fun _ hk => hk.2) (I q t160)) (fun _ hk => hk.2) (I q t161)) (fun _ hk => hk.2) (J Ao89 t162.length co89)) (fun _ h_ => h_.1)))); (case side4 => exact (Kd.R_reads' O164.out).2.1); rintro e w91 ⟨rfl, hb⟩; refine ⟨_, rfl, ?_⟩; have N0 := am (rb (by (with_reducible repeat (first | apply ra | apply rN | apply rd1)); exact (Kd.R_mono (rf (p := ⟨g165, 5, none⟩) (rf (p := ⟨g165, 4, none⟩) (rf (p := ⟨g165, 3, none⟩) (rf (p := ⟨g165, 2, none⟩) (rf (p := ⟨g165, 1, none⟩) (rf (p := ⟨g165, 0, none⟩) (Kd.R_types O138.out B165.out (by decide)) (fun _ hk => hk.2) (I q t157)) (fun _ hk => hk.2) (I q t158)) (fun _ hk => hk.2) (I q t159)) (fun _ hk => hk.2) (I q t160)) (fun _ hk => hk.2) (I q t161)) (fun _ hk => hk.2) (J Ao89 t162.length co89)) (fun _ h_ => h_.1))) hb); have N1 := am (rb (by (with_reducible repeat (first | apply ra | apply rN | apply rd1)); exact (Kd.R_mono (rf (p := ⟨g165, 5, none⟩) (rf (p := ⟨g165, 4, none⟩) (rf (p := ⟨g165, 3, none⟩) (rf (p := ⟨g165, 2, none⟩) (rf (p := ⟨g165, 1, none⟩) (rf (p := ⟨g165, 0, none⟩) (Kd.R_types O146.out B165.out (by decide)) (fun _ hk => hk.2) (I q t157)) (fun _ hk => hk.2) (I q t158)) (fun _ hk => hk.2) (I q t159)) (fun _ hk => hk.2) (I q t160)) (fun _ hk => hk.2) (I q t161)) (fun _ hk => hk.2) (J Ao89 t162.length co89)) (fun _ h_ => h_.1))) hb); have N2 := am (rb (by (with_reducible repeat (first | apply ra | apply rN | apply rd1)); exact (Kd.R_mono (rf (p := ⟨g165, 5, none⟩) (rf (p := ⟨g165, 4, none⟩) (rf (p := ⟨g165, 3, none⟩) (rf (p := ⟨g165, 2, none⟩) (rf (p := ⟨g165, 1, none⟩) (rf (p := ⟨g165, 0, none⟩) (Kd.R_types O155.out B165.out (by decide)) (fun _ hk => hk.2) (I q t157)) (fun _ hk => hk.2) (I q t158)) (fun _ hk => hk.2) (I q t159)) (fun _ hk => hk.2) (I q t160)) (fun _ hk => hk.2) (I q t161)) (fun _ hk => hk.2) (J Ao89 t162.length co89)) (fun _ h_ => h_.1))) hb); have N3 := am (rb (by (with_reducible repeat (first | apply ra | apply rN | apply rd1)); exact (Kd.R_mono (rf (p := ⟨g165, 5, none⟩) (rf (p := ⟨g165, 4, none⟩) (rf (p := ⟨g165, 3, none⟩) (rf (p := ⟨g165, 2, none⟩) (rf (p := ⟨g165, 1, none⟩) (rf (p := ⟨g165, 0, none⟩) (Kd.R_types O164.out B165.out (by decide)) (fun _ hk => hk.2) (I q t157)) (fun _ hk => hk.2) (I q t158)) (fun _ hk => hk.2) (I q t159)) (fun _ hk => hk.2) (I q t160)) (fun _ hk => hk.2) (I q t161)) (fun _ hk => hk.2) (J Ao89 t162.length co89)) (fun _ h_ => h_.1))) hb); have N4 := am (bb (g := g127) (o := .cells #[I q aa0, I q aa1, I q aa2, I q aa3, I q aa4, J Aa5 la5.length ca5] 24 (0, 0)) (by (with_reducible repeat (first | apply bN | apply bd | apply ba)); refine bq ?_ NB127_165.out _; (with_reducible repeat (first | apply bN | apply bd | apply ba)); refine bq ?_ NB127_165.out _; (with_reducible repeat (first | apply bN | apply bd | apply ba)); refine bq ?_ NB127_165.out _; (with_reducible repeat (first | apply bN | apply bd | apply ba)); refine bq ?_ NB127_165.out _; (with_reducible repeat (first | apply bN | apply bd | apply ba)); refine bq ?_ NB127_165.out _; (with_reducible repeat (first | apply bN | apply bd | apply ba)); refine bq ?_ NB127_165.out _; (with_reducible repeat (first | apply bN | apply bd | apply ba)); exact B127.out) hb); have N5 := am (bb (g := g128) (o := .cells #[I q ab0, I q ab1, I q ab2, I q ab3, I q ab4, J Ab5 lb5.length cb5] 24 (0, 0)) (by (with_reducible repeat (first | apply bN | apply bd | apply ba)); refine bq ?_ NB128_165.out _; (with_reducible repeat (first | apply bN | apply bd | apply ba)); refine bq ?_ NB128_165.out _; (with_reducible repeat (first | apply bN | apply bd | apply ba)); refine bq ?_ NB128_165.out _; (with_reducible repeat (first | apply bN | apply bd | apply ba)); refine bq ?_ NB128_165.out _; (with_reducible repeat (first | apply bN | apply bd | apply ba)); refine bq ?_ NB128_165.out _; (with_reducible repeat (first | apply bN | apply bd | apply ba)); refine bq ?_ NB128_165.out _; (with_reducible repeat (first | apply bN | apply bd | apply ba)); exact B128.out) hb); have N6 := am (bb (g := g156) (o := .cells #[I q t148, I q t149, I q t150, I q t151, I q t152, J Ao81 t153.length co81] 27 (0, 0)) (by (with_reducible repeat (first | apply bN | apply bd | apply ba)); refine bq ?_ NB156_165.out _; (with_reducible repeat (first | apply bN | apply bd | apply ba)); refine bq ?_ NB156_165.out _; (with_reducible repeat (first | apply bN | apply bd | apply ba)); refine bq ?_ NB156_165.out _; (with_reducible repeat (first | apply bN | apply bd | apply ba)); refine bq ?_ NB156_165.out _; (with_reducible repeat (first | apply bN | apply bd | apply ba)); refine bq ?_ NB156_165.out _; (with_reducible repeat (first | apply bN | apply bd | apply ba)); refine bq ?_ NB156_165.out _; (with_reducible repeat (first | apply bN | apply bd | apply ba)); exact B156.out) hb); have N7 := am (bb (g := g165) (o := .cells #[I q t157, I q t158, I q t159, I q t160, I q t161, J Ao89 t162.length co89] 27 (0, 0)) (by (with_reducible repeat (first | apply bN | apply bd | apply ba)); refine blk_put (cs := #[I q t157, I q t158, I q t159, I q t160, I q t161, .slice none 0 0]) ?_ 5 _ rfl; (with_reducible repeat (first | apply bN | apply bd | apply ba)); refine blk_put (cs := #[I q t157, I q t158, I q t159, I q t160, I q 0, .slice none 0 0]) ?_ 4 _ rfl; (with_reducible repeat (first | apply bN | apply bd | apply ba)); refine blk_put (cs := #[I q t157, I q t158, I q t159, I q 0, I q 0, .slice none 0 0]) ?_ 3 _ rfl; (with_reducible repeat (first | apply bN | apply bd | apply ba)); refine blk_put (cs := #[I q t157, I q t158, I q 0, I q 0, I q 0, .slice none 0 0]) ?_ 2 _ rfl; (with_reducible repeat (first | apply bN | apply bd | apply ba)); refine blk_put (cs := #[I q t157, I q 0, I q 0, I q 0, I q 0, .slice none 0 0]) ?_ 1 _ rfl; (with_reducible repeat (first | apply bN | apply bd | apply ba)); refine blk_put (cs := #[I q 0, I q 0, I q 0, I q 0, I q 0, .slice none 0 0]) ?_ 0 _ rfl; (with_reducible repeat (first | apply bN | apply bd | apply ba)); exact B165.out) hb); have N8 := am (bp (by repeat (first | (with_reducible first | exact HB.out | apply pa | apply pN | apply p1 | refine bs ?_ E127.out | refine bs ?_ E128.out | refine bs ?_ E156.out | refine bs ?_ E165.out) | exact HB.out)) hb); clear O138 O146 O155 O164 B127 B128 B156 B165 HB; have O138 := N0; have O146 := N1; have O155 := N2; have O164 := N3; have B127 := N4; have B128 := N5; have B156 := N6; have B165 := N7; have HB := N8; clear N0 N1 N2 N3 N4 N5 N6 N7 N8; (try clear hb); (try clear hb2); (try clear hk); (try clear hi)))
            have N0 := am (rd1 O138.out)
            have N1 := am (rd1 O146.out)
            have N2 := am (rd1 O155.out)
            have N3 := am (rd1 O164.out)
            have N4 := am (bd B127.out)
            have N5 := am (bd B128.out)
            have N6 := am (bd B156.out)
            have N7 := am (bd B165.out)
            have N8 := am (p1 HB.out)
            clear O138
            clear O146
            clear O155
            clear O164
            clear B127
            clear B128
            clear B156
            clear B165
            clear HB
            have O138 := N0
            have O146 := N1
            have O155 := N2
            have O164 := N3
            have B127 := N4
            have B128 := N5
            have B156 := N6
            have B165 := N7
            have HB := N8
            clear N0 N1 N2 N3 N4 N5 N6 N7 N8
            refine start_ (n := 5) (S := fun w' => w'.cell? ⟨g156, 0, none⟩ = some (I q t148) ∧ w'.cell? ⟨g156, 1, none⟩ = some (I q t149) ∧ w'.cell? ⟨g156, 2, none⟩ = some (I q t150) ∧ w'.cell? ⟨g156, 3, none⟩ = some (I q t151) ∧ w'.cell? ⟨g156, 4, none⟩ = some (I q t152) ∧ w'.cell? ⟨g156, 5, none⟩ = some (J Ao81 t153.length co81) ∧ w'.cell? ⟨g127, 0, none⟩ = some (I q aa0) ∧ w'.cell? ⟨g127, 1, none⟩ = some (I q aa1) ∧ w'.cell? ⟨g127, 2, none⟩ = some (I q aa2) ∧ w'.cell? ⟨g127, 3, none⟩ = some (I q aa3) ∧ w'.cell? ⟨g127, 4, none⟩ = some (I q aa4) ∧ w'.cell? ⟨g127, 5, none⟩ = some (J Aa5 la5.length ca5)) (ds := []) #[false, false, false, false, false] (by kernel_rfl) rfl rfl ⟨(bc B156.out 0).trans rfl, (bc B156.out 1).trans rfl, (bc B156.out 2).trans rfl, (bc B156.out 3).trans rfl, (bc B156.out 4).trans rfl, (bc B156.out 5).trans rfl, (bc B127.out 0).trans rfl, (bc B127.out 1).trans rfl, (bc B127.out 2).trans rfl, (bc B127.out 3).trans rfl, (bc B127.out 4).trans rfl, (bc B127.out 5).trans rfl⟩ (fun hHeld => ?_)
            generalize w91.drew = w92 at O138 O146 O155 O164 B127 B128 B156 B165 HB hHeld ⊢
            refine take_ (i := 0) (N := some 35) (v := ?_) (a' := ?_) #[true, false, false, false, false] rfl rfl (by kernel_rfl) (fun _ _ _ h => h) (Or.inl ⟨by rfl, ?_⟩) hHeld ?_ ?_
            rotate_left
            · rintro w' ⟨s0, s1, s2, s3, s4, s5, s6, s7, s8, s9, s10, s11⟩
              go_simp
              with_reducible rfl
            rotate_left
            · simp only [Act.put, List.setIfInBounds_toArray, List.set_cons_zero, List.set_cons_succ, i64_w, i32_w]
              rfl
            refine take_ (i := 1) (N := some 36) (v := ?_) (a' := ?_) #[true, true, false, false, false] rfl rfl (by kernel_rfl) (fun _ _ _ h => h) (Or.inl ⟨by rfl, ?_⟩) hHeld ?_ ?_
            rotate_left
            · rintro w' ⟨s0, s1, s2, s3, s4, s5, s6, s7, s8, s9, s10, s11⟩
              go_simp
              with_reducible rfl
            rotate_left
            · simp only [Act.put, List.setIfInBounds_toArray, List.set_cons_zero, List.set_cons_succ, i64_w, i32_w]
              rfl
            refine one_ (i := 2) (N := some 37) #[true, true, true, false, false] rfl rfl (by kernel_rfl) (by decide) (fun K hK => ?_)
            refine goes_ Try.func17 (by kernel_rfl) rfl #[.agg #[I q aa0, I q aa1, I q aa2, I q aa3, I q aa4, J Aa5 la5.length ca5]] (by rfl) rfl rfl (by (try simp only [List.map_toArray, List.map_cons, List.map_nil]); first | done | rfl | (simp only [List.length_drop, List.length_take]; rfl)) ?_
            with_reducible refine (laws_toPacket.calls k aa0 aa1 aa2 aa3 aa4 _ _ la5 t167 t168 t169 t170 t171 t172 _ ?side1 ?side2 A56.out).mono ?_
            (case side1 => repeat (first | exact (Kd.C_below HR0_5.out HB.out) | (with_reducible refine ca ?_ _) | (with_reducible refine cN ?_ _) | (with_reducible refine cd1 ?_)))
            (case side2 => exact HC0_5.out)
            rintro e w93 ⟨v173, rfl, ho0, hb⟩
            refine ⟨_, rfl, ?_⟩
            have N0 := am (re (by (with_reducible repeat (first | apply ra | apply rN | apply rd1)); exact O138.out) (Kd.R_base ho0) hb)
            have N1 := am (re (by (with_reducible repeat (first | apply ra | apply rN | apply rd1)); exact O146.out) (Kd.R_base ho0) hb)
            have N2 := am (re (by (with_reducible repeat (first | apply ra | apply rN | apply rd1)); exact O155.out) (Kd.R_base ho0) hb)
            have N3 := am (re (by (with_reducible repeat (first | apply ra | apply rN | apply rd1)); exact O164.out) (Kd.R_base ho0) hb)
            have N4 := am (rw1 (rn (rn (rn (rn ho0 (rl (by (with_reducible repeat (first | apply ra | apply rN | apply rd1)); exact O138.out))) (rl (by (with_reducible repeat (first | apply ra | apply rN | apply rd1)); exact O146.out))) (rl (by (with_reducible repeat (first | apply ra | apply rN | apply rd1)); exact O155.out))) (rl (by (with_reducible repeat (first | apply ra | apply rN | apply rd1)); exact O164.out))) (bz (by repeat (first | (with_reducible first | exact HB.out | apply pa | apply pN | apply p1 | refine bs ?_ E127.out | refine bs ?_ E128.out | refine bs ?_ E156.out | refine bs ?_ E165.out) | exact HB.out))))
            have N5 := am (bb (g := g127) (o := .cells #[I q aa0, I q aa1, I q aa2, I q aa3, I q aa4, J Aa5 la5.length ca5] 24 (0, 0)) (by (with_reducible repeat (first | apply bN | apply bd | apply ba)); exact B127.out) hb)
            have N6 := am (bb (g := g128) (o := .cells #[I q ab0, I q ab1, I q ab2, I q ab3, I q ab4, J Ab5 lb5.length cb5] 24 (0, 0)) (by (with_reducible repeat (first | apply bN | apply bd | apply ba)); exact B128.out) hb)
            have N7 := am (bb (g := g156) (o := .cells #[I q t148, I q t149, I q t150, I q t151, I q t152, J Ao81 t153.length co81] 27 (0, 0)) (by (with_reducible repeat (first | apply bN | apply bd | apply ba)); exact B156.out) hb)
            have N8 := am (bb (g := g165) (o := .cells #[I q t157, I q t158, I q t159, I q t160, I q t161, J Ao89 t162.length co89] 27 (0, 0)) (by (with_reducible repeat (first | apply bN | apply bd | apply ba)); exact B165.out) hb)
            have N9 := am (bp (by repeat (first | (with_reducible first | exact HB.out | apply pa | apply pN | apply p1 | refine bs ?_ E127.out | refine bs ?_ E128.out | refine bs ?_ E156.out | refine bs ?_ E165.out) | exact HB.out)) hb)
            clear O138
            clear O146
            clear O155
            clear O164
            clear B127
            clear B128
            clear B156
            clear B165
            clear HB
            have O138 := N0
            have O146 := N1
            have O155 := N2
            have O164 := N3
            have O174 := N4
            have B127 := N5
            have B128 := N6
            have B156 := N7
            have B165 := N8
            have HB := N9
            clear N0 N1 N2 N3 N4 N5 N6 N7 N8 N9
            (try clear hb)
            (try clear hb2)
            (try clear hk)
            (try clear hi)
            (try clear ho0)
            obtain ⟨Ao94, co94, eo94⟩ := Kd.R_slice O174.out
            (first | subst eo94 | (injection eo94 with f1_ f2_ f3_; have f4_ := f1_.symm; have f5_ := f3_.symm; clear f1_ f2_ f3_; subst f4_; subst f5_))
            refine hK.out _ _ ⟨(bc B156.out 0).trans rfl, (bc B156.out 1).trans rfl, (bc B156.out 2).trans rfl, (bc B156.out 3).trans rfl, (bc B156.out 4).trans rfl, (bc B156.out 5).trans rfl, (bc B127.out 0).trans rfl, (bc B127.out 1).trans rfl, (bc B127.out 2).trans rfl, (bc B127.out 3).trans rfl, (bc B127.out 4).trans rfl, (bc B127.out 5).trans rfl⟩ (fun hHeld => ?_)
            clear hK K
            refine norm_ (a' := ?_) ?_ ?_
            rotate_left
            · show Act.put _ (some 37) _ = _
              simp only [Act.put, List.setIfInBounds_toArray, List.set_cons_zero, List.set_cons_succ, i64_w, i32_w]
              rfl
            refine one_ (i := 3) (N := some 38) #[true, true, true, true, false] rfl rfl (by kernel_rfl) (by decide) (fun K hK => ?_)
            refine goes_ Try.func19 (by kernel_rfl) rfl #[.agg #[I q t148, I q t149, I q t150, I q t151, I q t152, J Ao81 t153.length co81], .agg #[I q t167, I q t168, I q t169, I q t170, I q t171, J Ao94 t172.length co94]] (by rfl) rfl rfl (by (try simp only [List.map_toArray, List.map_cons, List.map_nil]); first | done | rfl | (simp only [List.length_drop, List.length_take]; rfl)) ?_
            with_reducible refine (laws_eqPacket.calls k t148 t149 t150 t151 t152 _ _ t153 t167 t168 t169 t170 t171 _ _ t172 true _ ?side1 ?side2 ?side3 ?side4 A57.out).mono ?_
            (case side1 => repeat (first | exact (Kd.R_reads' O155.out).2.2 | (with_reducible refine ca ?_ _) | (with_reducible refine cN ?_ _) | (with_reducible refine cd1 ?_)))
            (case side2 => exact (Kd.R_reads' O155.out).2.1)
            (case side3 => repeat (first | exact (Kd.R_reads' O174.out).2.2 | (with_reducible refine ca ?_ _) | (with_reducible refine cN ?_ _) | (with_reducible refine cd1 ?_)))
            (case side4 => exact (Kd.R_reads' O174.out).2.1)
            rintro e w95 ⟨rfl, hb⟩
            refine ⟨_, rfl, ?_⟩
            have N0 := am (rb (by (with_reducible repeat (first | apply ra | apply rN | apply rd1)); exact O138.out) hb)
            have N1 := am (rb (by (with_reducible repeat (first | apply ra | apply rN | apply rd1)); exact O146.out) hb)
            have N2 := am (rb (by (with_reducible repeat (first | apply ra | apply rN | apply rd1)); exact O155.out) hb)
            have N3 := am (rb (by (with_reducible repeat (first | apply ra | apply rN | apply rd1)); exact O164.out) hb)
            have N4 := am (rb (by (with_reducible repeat (first | apply ra | apply rN | apply rd1)); exact O174.out) hb)
            have N5 := am (bb (g := g127) (o := .cells #[I q aa0, I q aa1, I q aa2, I q aa3, I q aa4, J Aa5 la5.length ca5] 24 (0, 0)) (by (with_reducible repeat (first | apply bN | apply bd | apply ba)); exact B127.out) hb)
            have N6 := am (bb (g := g128) (o := .cells #[I q ab0, I q ab1, I q ab2, I q ab3, I q ab4, J Ab5 lb5.length cb5] 24 (0, 0)) (by (with_reducible repeat (first | apply bN | apply bd | apply ba)); exact B128.out) hb)
            have N7 := am (bb (g := g156) (o := .cells #[I q t148, I q t149, I q t150, I q t151, I q t152, J Ao81 t153.length co81] 27 (0, 0)) (by (with_reducible repeat (first | apply bN | apply bd | apply ba)); exact B156.out) hb)
            have N8 := am (bb (g := g165) (o := .cells #[I q t157, I q t158, I q t159, I q t160, I q t161, J Ao89 t162.length co89] 27 (0, 0)) (by (with_reducible repeat (first | apply bN | apply bd | apply ba)); exact B165.out) hb)
            have N9 := am (bp (by repeat (first | (with_reducible first | exact HB.out | apply pa | apply pN | apply p1 | refine bs ?_ E127.out | refine bs ?_ E128.out | refine bs ?_ E156.out | refine bs ?_ E165.out) | exact HB.out)) hb)
            clear O138
            clear O146
            clear O155
            clear O164
            clear O174
            clear B127
            clear B128
            clear B156
            clear B165
            clear HB
            have O138 := N0
            have O146 := N1
            have O155 := N2
            have O164 := N3
            have O174 := N4
            have B127 := N5
            have B128 := N6
            have B156 := N7
            have B165 := N8
            have HB := N9
            clear N0 N1 N2 N3 N4 N5 N6 N7 N8 N9
            (try clear hb)
            (try clear hb2)
            (try clear hk)
            (try clear hi)
            refine hK.out _ _ ⟨(bc B156.out 0).trans rfl, (bc B156.out 1).trans rfl, (bc B156.out 2).trans rfl, (bc B156.out 3).trans rfl, (bc B156.out 4).trans rfl, (bc B156.out 5).trans rfl, (bc B127.out 0).trans rfl, (bc B127.out 1).trans rfl, (bc B127.out 2).trans rfl, (bc B127.out 3).trans rfl, (bc B127.out 4).trans rfl, (bc B127.out 5).trans rfl⟩ (fun hHeld => ?_)
            clear hK K
            refine norm_ (a' := ?_) ?_ ?_
            rotate_left
            · show Act.put _ (some 38) _ = _
              simp only [Act.put, List.setIfInBounds_toArray, List.set_cons_zero, List.set_cons_succ, i64_w, i32_w]
              rfl
            refine pure_ (i := 4) (N := some 39) (v := ?_) (a' := ?_) #[true, true, true, true, true] rfl rfl (by kernel_rfl) (fun _ _ _ h => h) (Or.inl ⟨by rfl, ?_⟩) ?_ ?_
            rotate_left
            · intro w'
              first | (go_simp; with_reducible rfl) | (go_simp; (try unfold Instr.field); go_simp; (try simp only [asAgg]); go_simp; with_reducible rfl)
            rotate_left
            · simp only [Act.put, List.setIfInBounds_toArray, List.set_cons_zero, List.set_cons_succ, i64_w, i32_w]
              rfl
            refine done_ (by kernel_rfl) ?_
            try go_wp2
            have N0 := am (rd1 O138.out)
            have N1 := am (rd1 O146.out)
            have N2 := am (rd1 O155.out)
            have N3 := am (rd1 O164.out)
            have N4 := am (rd1 O174.out)
            have N5 := am (bd B127.out)
            have N6 := am (bd B128.out)
            have N7 := am (bd B156.out)
            have N8 := am (bd B165.out)
            have N9 := am (p1 HB.out)
            clear O138
            clear O146
            clear O155
            clear O164
            clear O174
            clear B127
            clear B128
            clear B156
            clear B165
            clear HB
            have O138 := N0
            have O146 := N1
            have O155 := N2
            have O164 := N3
            have O174 := N4
            have B127 := N5
            have B128 := N6
            have B156 := N7
            have B165 := N8
            have HB := N9
            clear N0 N1 N2 N3 N4 N5 N6 N7 N8 N9
            refine start_ (n := 5) (S := fun w' => w'.cell? ⟨g165, 0, none⟩ = some (I q t157) ∧ w'.cell? ⟨g165, 1, none⟩ = some (I q t158) ∧ w'.cell? ⟨g165, 2, none⟩ = some (I q t159) ∧ w'.cell? ⟨g165, 3, none⟩ = some (I q t160) ∧ w'.cell? ⟨g165, 4, none⟩ = some (I q t161) ∧ w'.cell? ⟨g165, 5, none⟩ = some (J Ao89 t162.length co89) ∧ w'.cell? ⟨g128, 0, none⟩ = some (I q ab0) ∧ w'.cell? ⟨g128, 1, none⟩ = some (I q ab1) ∧ w'.cell? ⟨g128, 2, none⟩ = some (I q ab2) ∧ w'.cell? ⟨g128, 3, none⟩ = some (I q ab3) ∧ w'.cell? ⟨g128, 4, none⟩ = some (I q ab4) ∧ w'.cell? ⟨g128, 5, none⟩ = some (J Ab5 lb5.length cb5)) (ds := []) #[false, false, false, false, false] (by kernel_rfl) rfl rfl ⟨(bc B165.out 0).trans rfl, (bc B165.out 1).trans rfl, (bc B165.out 2).trans rfl, (bc B165.out 3).trans rfl, (bc B165.out 4).trans rfl, (bc B165.out 5).trans rfl, (bc B128.out 0).trans rfl, (bc B128.out 1).trans rfl, (bc B128.out 2).trans rfl, (bc B128.out 3).trans rfl, (bc B128.out 4).trans rfl, (bc B128.out 5).trans rfl⟩ (fun hHeld => ?_)
            generalize w95.drew = w96 at O138 O146 O155 O164 O174 B127 B128 B156 B165 HB hHeld ⊢
            refine take_ (i := 0) (N := some 40) (v := ?_) (a' := ?_) #[true, false, false, false, false] rfl rfl (by kernel_rfl) (fun _ _ _ h => h) (Or.inl ⟨by rfl, ?_⟩) hHeld ?_ ?_
            rotate_left
            · rintro w' ⟨s0, s1, s2, s3, s4, s5, s6, s7, s8, s9, s10, s11⟩
              go_simp
              with_reducible rfl
            rotate_left
            · simp only [Act.put, List.setIfInBounds_toArray, List.set_cons_zero, List.set_cons_succ, i64_w, i32_w]
              rfl
            refine take_ (i := 1) (N := some 41) (v := ?_) (a' := ?_) #[true, true, false, false, false] rfl rfl (by kernel_rfl) (fun _ _ _ h => h) (Or.inl ⟨by rfl, ?_⟩) hHeld ?_ ?_
            rotate_left
            · rintro w' ⟨s0, s1, s2, s3, s4, s5, s6, s7, s8, s9, s10, s11⟩
              go_simp
              with_reducible rfl
            rotate_left
            · simp only [Act.put, List.setIfInBounds_toArray, List.set_cons_zero, List.set_cons_succ, i64_w, i32_w]
              rfl
            refine one_ (i := 2) (N := some 42) #[true, true, true, false, false] rfl rfl (by kernel_rfl) (by decide) (fun K hK => ?_)
            refine goes_ Try.func17 (by kernel_rfl) rfl #[.agg #[I q ab0, I q ab1, I q ab2, I q ab3, I q ab4, J Ab5 lb5.length cb5]] (by rfl) rfl rfl (by (try simp only [List.map_toArray, List.map_cons, List.map_nil]); first | done | rfl | (simp only [List.length_drop, List.length_take]; rfl)) ?_
            with_reducible refine (laws_toPacket.calls k ab0 ab1 ab2 ab3 ab4 _ _ lb5 t176 t177 t178 t179 t180 t181 _ ?side1 ?side2 A59.out).mono ?_
            (case side1 => repeat (first | exact (Kd.C_below HR1_5.out HB.out) | (with_reducible refine ca ?_ _) | (with_reducible refine cN ?_ _) | (with_reducible refine cd1 ?_)))
            (case side2 => exact HC1_5.out)
            rintro e w97 ⟨v182, rfl, ho0, hb⟩
            refine ⟨_, rfl, ?_⟩
            have N0 := am (re (by (with_reducible repeat (first | apply ra | apply rN | apply rd1)); exact O138.out) (Kd.R_base ho0) hb)
            have N1 := am (re (by (with_reducible repeat (first | apply ra | apply rN | apply rd1)); exact O146.out) (Kd.R_base ho0) hb)
            have N2 := am (re (by (with_reducible repeat (first | apply ra | apply rN | apply rd1)); exact O155.out) (Kd.R_base ho0) hb)
            have N3 := am (re (by (with_reducible repeat (first | apply ra | apply rN | apply rd1)); exact O164.out) (Kd.R_base ho0) hb)
            have N4 := am (re (by (with_reducible repeat (first | apply ra | apply rN | apply rd1)); exact O174.out) (Kd.R_base ho0) hb)
            have N5 := am (rw1 (rn (rn (rn (rn (rn ho0 (rl (by (with_reducible repeat (first | apply ra | apply rN | apply rd1)); exact O138.out))) (rl (by (with_reducible repeat (first | apply ra | apply rN | apply rd1)); exact O146.out))) (rl (by (with_reducible repeat (first | apply ra | apply rN | apply rd1)); exact O155.out))) (rl (by (with_reducible repeat (first | apply ra | apply rN | apply rd1)); exact O164.out))) (rl (by (with_reducible repeat (first | apply ra | apply rN | apply rd1)); exact O174.out))) (bz (by repeat (first | (with_reducible first | exact HB.out | apply pa | apply pN | apply p1 | refine bs ?_ E127.out | refine bs ?_ E128.out | refine bs ?_ E156.out | refine bs ?_ E165.out) | exact HB.out))))
            have N6 := am (bb (g := g127) (o := .cells #[I q aa0, I q aa1, I q aa2, I q aa3, I q aa4, J Aa5 la5.length ca5] 24 (0, 0)) (by (with_reducible repeat (first | apply bN | apply bd | apply ba)); exact B127.out) hb)
            have N7 := am (bb (g := g128) (o := .cells #[I q ab0, I q ab1, I q ab2, I q ab3, I q ab4, J Ab5 lb5.length cb5] 24 (0, 0)) (by (with_reducible repeat (first | apply bN | apply bd | apply ba)); exact B128.out) hb)
            have N8 := am (bb (g := g156) (o := .cells #[I q t148, I q t149, I q t150, I q t151, I q t152, J Ao81 t153.length co81] 27 (0, 0)) (by (with_reducible repeat (first | apply bN | apply bd | apply ba)); exact B156.out) hb)
            have N9 := am (bb (g := g165) (o := .cells #[I q t157, I q t158, I q t159, I q t160, I q t161, J Ao89 t162.length co89] 27 (0, 0)) (by (with_reducible repeat (first | apply bN | apply bd | apply ba)); exact B165.out) hb)
            have N10 := am (bp (by repeat (first | (with_reducible first | exact HB.out | apply pa | apply pN | apply p1 | refine bs ?_ E127.out | refine bs ?_ E128.out | refine bs ?_ E156.out | refine bs ?_ E165.out) | exact HB.out)) hb)
            clear O138
            clear O146
            clear O155
            clear O164
            clear O174
            clear B127
            clear B128
            clear B156
            clear B165
            clear HB
            have O138 := N0
            have O146 := N1
            have O155 := N2
            have O164 := N3
            have O174 := N4
            have O183 := N5
            have B127 := N6
            have B128 := N7
            have B156 := N8
            have B165 := N9
            have HB := N10
            clear N0 N1 N2 N3 N4 N5 N6 N7 N8 N9 N10
            (try clear hb)
            (try clear hb2)
            (try clear hk)
            (try clear hi)
            (try clear ho0)
            obtain ⟨Ao98, co98, eo98⟩ := Kd.R_slice O183.out
            (first | subst eo98 | (injection eo98 with f1_ f2_ f3_; have f4_ := f1_.symm; have f5_ := f3_.symm; clear f1_ f2_ f3_; subst f4_; subst f5_))
            refine hK.out _ _ ⟨(bc B165.out 0).trans rfl, (bc B165.out 1).trans rfl, (bc B165.out 2).trans rfl, (bc B165.out 3).trans rfl, (bc B165.out 4).trans rfl, (bc B165.out 5).trans rfl, (bc B128.out 0).trans rfl, (bc B128.out 1).trans rfl, (bc B128.out 2).trans rfl, (bc B128.out 3).trans rfl, (bc B128.out 4).trans rfl, (bc B128.out 5).trans rfl⟩ (fun hHeld => ?_)
            clear hK K
            refine norm_ (a' := ?_) ?_ ?_
            rotate_left
            · show Act.put _ (some 42) _ = _
              simp only [Act.put, List.setIfInBounds_toArray, List.set_cons_zero, List.set_cons_succ, i64_w, i32_w]
              rfl
            refine one_ (i := 3) (N := some 43) #[true, true, true, true, false] rfl rfl (by kernel_rfl) (by decide) (fun K hK => ?_)
            refine goes_ Try.func19 (by kernel_rfl) rfl #[.agg #[I q t157, I q t158, I q t159, I q t160, I q t161, J Ao89 t162.length co89], .agg #[I q t176, I q t177, I q t178, I q t179, I q t180, J Ao98 t181.length co98]] (by rfl) rfl rfl (by (try simp only [List.map_toArray, List.map_cons, List.map_nil]); first | done | rfl | (simp only [List.length_drop, List.length_take]; rfl)) ?_
            with_reducible refine (laws_eqPacket.calls k t157 t158 t159 t160 t161 _ _ t162 t176 t177 t178 t179 t180 _ _ t181 true _ ?side1 ?side2 ?side3 ?side4 A60.out).mono ?_
            (case side1 => repeat (first | exact (Kd.R_reads' O164.out).2.2 | (with_reducible refine ca ?_ _) | (with_reducible refine cN ?_ _) | (with_reducible refine cd1 ?_)))
            (case side2 => exact (Kd.R_reads' O164.out).2.1)
            (case side3 => repeat (first | exact (Kd.R_reads' O183.out).2.2 | (with_reducible refine ca ?_ _) | (with_reducible refine cN ?_ _) | (with_reducible refine cd1 ?_)))
            (case side4 => exact (Kd.R_reads' O183.out).2.1)
            rintro e w99 ⟨rfl, hb⟩
            refine ⟨_, rfl, ?_⟩
            have N0 := am (rb (by (with_reducible repeat (first | apply ra | apply rN | apply rd1)); exact O138.out) hb)
            have N1 := am (rb (by (with_reducible repeat (first | apply ra | apply rN | apply rd1)); exact O146.out) hb)
            have N2 := am (rb (by (with_reducible repeat (first | apply ra | apply rN | apply rd1)); exact O155.out) hb)
            have N3 := am (rb (by (with_reducible repeat (first | apply ra | apply rN | apply rd1)); exact O164.out) hb)
            have N4 := am (rb (by (with_reducible repeat (first | apply ra | apply rN | apply rd1)); exact O174.out) hb)
            have N5 := am (rb (by (with_reducible repeat (first | apply ra | apply rN | apply rd1)); exact O183.out) hb)
            have N6 := am (bb (g := g127) (o := .cells #[I q aa0, I q aa1, I q aa2, I q aa3, I q aa4, J Aa5 la5.length ca5] 24 (0, 0)) (by (with_reducible repeat (first | apply bN | apply bd | apply ba)); exact B127.out) hb)
            have N7 := am (bb (g := g128) (o := .cells #[I q ab0, I q ab1, I q ab2, I q ab3, I q ab4, J Ab5 lb5.length cb5] 24 (0, 0)) (by (with_reducible repeat (first | apply bN | apply bd | apply ba)); exact B128.out) hb)
            have N8 := am (bb (g := g156) (o := .cells #[I q t148, I q t149, I q t150, I q t151, I q t152, J Ao81 t153.length co81] 27 (0, 0)) (by (with_reducible repeat (first | apply bN | apply bd | apply ba)); exact B156.out) hb)
            have N9 := am (bb (g := g165) (o := .cells #[I q t157, I q t158, I q t159, I q t160, I q t161, J Ao89 t162.length co89] 27 (0, 0)) (by (with_reducible repeat (first | apply bN | apply bd | apply ba)); exact B165.out) hb)
            have N10 := am (bp (by repeat (first | (with_reducible first | exact HB.out | apply pa | apply pN | apply p1 | refine bs ?_ E127.out | refine bs ?_ E128.out | refine bs ?_ E156.out | refine bs ?_ E165.out) | exact HB.out)) hb)
            clear O138
            clear O146
            clear O155
            clear O164
            clear O174
            clear O183
            clear B127
            clear B128
            clear B156
            clear B165
            clear HB
            have O138 := N0
            have O146 := N1
            have O155 := N2
            have O164 := N3
            have O174 := N4
            have O183 := N5
            have B127 := N6
            have B128 := N7
            have B156 := N8
            have B165 := N9
            have HB := N10
            clear N0 N1 N2 N3 N4 N5 N6 N7 N8 N9 N10
            (try clear hb)
            (try clear hb2)
            (try clear hk)
            (try clear hi)
            refine hK.out _ _ ⟨(bc B165.out 0).trans rfl, (bc B165.out 1).trans rfl, (bc B165.out 2).trans rfl, (bc B165.out 3).trans rfl, (bc B165.out 4).trans rfl, (bc B165.out 5).trans rfl, (bc B128.out 0).trans rfl, (bc B128.out 1).trans rfl, (bc B128.out 2).trans rfl, (bc B128.out 3).trans rfl, (bc B128.out 4).trans rfl, (bc B128.out 5).trans rfl⟩ (fun hHeld => ?_)
            clear hK K
            refine norm_ (a' := ?_) ?_ ?_
            rotate_left
            · show Act.put _ (some 43) _ = _
              simp only [Act.put, List.setIfInBounds_toArray, List.set_cons_zero, List.set_cons_succ, i64_w, i32_w]
              rfl
            refine pure_ (i := 4) (N := some 44) (v := ?_) (a' := ?_) #[true, true, true, true, true] rfl rfl (by kernel_rfl) (fun _ _ _ h => h) (Or.inl ⟨by rfl, ?_⟩) ?_ ?_
            rotate_left
            · intro w'
              first | (go_simp; with_reducible rfl) | (go_simp; (try unfold Instr.field); go_simp; (try simp only [asAgg]); go_simp; with_reducible rfl)
            rotate_left
            · simp only [Act.put, List.setIfInBounds_toArray, List.set_cons_zero, List.set_cons_succ, i64_w, i32_w]
              rfl
            refine done_ (by kernel_rfl) ?_
            try go_wp2
            go_ret
            exact ⟨by first | rfl | (simp [errW_none, errW_some] <;> rfl) | (simp [*, errW_none, errW_some] <;> rfl), by repeat (first | (with_reducible first | exact HB.out | apply pa | apply pN | apply p1 | refine bs ?_ E127.out | refine bs ?_ E128.out | refine bs ?_ E156.out | refine bs ?_ E165.out) | exact HB.out)⟩
          · replace c61 := Bool.eq_false_iff.mpr c61
            subst c61
            have H1 : (some false) = some r := by rw [if_neg (show ¬ (false = true) by decide)] at H; exact H
            clear H
            have H := H1
            clear H1
            obtain rfl := Option.some.inj H
            go_enter Try.func3, Try.ntmps3
            try go_wp2_with (first | ((with_reducible refine gate_dst (N := 2) rfl ?_); refine box_event ?hg (N := 2) ?hd (cs := #[I q aa0, I q aa1, I q aa2, I q aa3, I q aa4, J Aa5 la5.length ca5]) (t := 24) ?hr ?_; (case hd => rfl); (case hg => rfl); (case hr => first | (go_simp; done) | (go_simp; rfl)); intro g127 hg w100 hbox hb; have N0 := am (bp (by repeat (first | (with_reducible first | exact HB.out | apply pa | apply pN | apply p1) | exact HB.out)) hb); have N1 := am (hbox); have N2 := am ((by rw [hg]; exact (bz (by repeat (first | (with_reducible first | exact HB.out | apply pa | apply pN | apply p1) | exact HB.out))) : w.heap.size ≤ g127)); have N3 := am ((by rw [hg]; exact (bz (by repeat (first | (with_reducible first | exact HB.out | apply pa | apply pN | apply p1) | exact HB.out))) : w.heap.size ≤ g127)); clear HB; have HB := N0; have B127 := N1; have GW127 := N2; have E127 := N3; clear N0 N1 N2 N3 hb hbox hg) | ((with_reducible refine gate_dst (N := 3) rfl ?_); refine box_event ?hg (N := 3) ?hd (cs := #[I q ab0, I q ab1, I q ab2, I q ab3, I q ab4, J Ab5 lb5.length cb5]) (t := 24) ?hr ?_; (case hd => rfl); (case hg => rfl); (case hr => first | (go_simp; done) | (go_simp; rfl)); intro g128 hg w101 hbox hb; have N0 := am (bb (g := g127) (o := .cells #[I q aa0, I q aa1, I q aa2, I q aa3, I q aa4, J Aa5 la5.length ca5] 24 (0, 0)) (by (with_reducible repeat (first | apply bN | apply bd | apply ba)); exact B127.out) hb); have N1 := am (bp (by repeat (first | (with_reducible first | exact HB.out | apply pa | apply pN | apply p1 | refine bs ?_ E127.out) | exact HB.out)) hb); have N2 := am (hbox); have N3 := am ((by rw [hg]; exact (bz (by repeat (first | (with_reducible first | exact HB.out | apply pa | apply pN | apply p1 | refine bs ?_ E127.out) | exact HB.out))) : w.heap.size ≤ g128)); have N4 := am ((by rw [hg]; exact (bz (by repeat (first | (with_reducible first | exact HB.out | apply pa | apply pN | apply p1 | refine bs ?_ E127.out) | exact HB.out))) : w.heap.size ≤ g128)); have N5 := am ((by rw [hg]; exact Nat.ne_of_lt (bl (g := g127) (o := .cells #[I q aa0, I q aa1, I q aa2, I q aa3, I q aa4, J Aa5 la5.length ca5] 24 (0, 0)) (by (with_reducible repeat (first | apply bN | apply bd | apply ba)); exact B127.out)) : g127 ≠ g128)); have N6 := am ((by rw [hg]; exact Nat.ne_of_gt (bl (g := g127) (o := .cells #[I q aa0, I q aa1, I q aa2, I q aa3, I q aa4, J Aa5 la5.length ca5] 24 (0, 0)) (by (with_reducible repeat (first | apply bN | apply bd | apply ba)); exact B127.out)) : g128 ≠ g127)); clear B127 HB; have B127 := N0; have HB := N1; have B128 := N2; have GW128 := N3; have E128 := N4; have NB127_128 := N5; have NB128_127 := N6; clear N0 N1 N2 N3 N4 N5 N6 hb hbox hg; have hnb102 := NB127_128.out; have hnc102 := NB128_127.out; have hcz103_0 : w101.cell? ⟨g127, 0, none⟩ = some (I q aa0) := (bc B127.out 0).trans rfl; have hcz103_1 : w101.cell? ⟨g127, 1, none⟩ = some (I q aa1) := (bc B127.out 1).trans rfl; have hcz103_2 : w101.cell? ⟨g127, 2, none⟩ = some (I q aa2) := (bc B127.out 2).trans rfl; have hcz103_3 : w101.cell? ⟨g127, 3, none⟩ = some (I q aa3) := (bc B127.out 3).trans rfl; have hcz103_4 : w101.cell? ⟨g127, 4, none⟩ = some (I q aa4) := (bc B127.out 4).trans rfl; have hcz103_5 : w101.cell? ⟨g127, 5, none⟩ = some (J Aa5 la5.length ca5) := (bc B127.out 5).trans rfl; have hfz103_0 := bf B127.out 0; have hfz103_1 := bf B127.out 1; have hfz103_2 := bf B127.out 2; have hfz103_3 := bf B127.out 3; have hfz103_4 := bf B127.out 4; have hfz103_5 := bf B127.out 5) | ((with_reducible refine gate_callee (f := 15) rfl ?_); refine goesL_ (some 12) rfl rfl Try.func15 (by kernel_rfl) rfl #[.agg #[I q aa0, I q aa1, I q aa2, I q aa3, I q aa4, J Aa5 la5.length ca5], I q 1048576] rfl (by (try simp only [List.map_toArray, List.map_cons, List.map_nil]); first | done | rfl | (simp only [List.length_drop, List.length_take]; rfl)) ?_; (with_reducible refine (laws_szPacket.calls aa0 aa1 aa2 aa3 aa4 _ _ la5 1048576 t129 _ ?side1 ?side2 A3.out).mono ?_); (case side1 => repeat (first | exact (Kd.C_below HR0_5.out HB.out) | (with_reducible refine ca ?_ _) | (with_reducible refine cN ?_ _) | (with_reducible refine cd1 ?_))); (case side2 => exact HC0_5.out); rintro e w104 ⟨rfl, hb⟩; refine ⟨_, rfl, ?_⟩; have N0 := am (bb (g := g127) (o := .cells #[I q aa0, I q aa1, I q aa2, I q aa3, I q aa4, J Aa5 la5.length ca5] 24 (0, 0)) (by (with_reducible repeat (first | apply bN | apply bd | apply ba)); exact B127.out) hb); have N1 := am (bb (g := g128) (o := .cells #[I q ab0, I q ab1, I q ab2, I q ab3, I q ab4, J Ab5 lb5.length cb5] 24 (0, 0)) (by (with_reducible repeat (first | apply bN | apply bd | apply ba)); exact B128.out) hb); have N2 := am (bp (by repeat (first | (with_reducible first | exact HB.out | apply pa | apply pN | apply p1 | refine bs ?_ E127.out | refine bs ?_ E128.out) | exact HB.out)) hb); clear B127 B128 HB; have B127 := N0; have B128 := N1; have HB := N2; clear N0 N1 N2; (try clear hb); (try clear hb2); (try clear hk); (try clear hi); have hcz105_0 : w104.cell? ⟨g128, 0, none⟩ = some (I q ab0) := (bc B128.out 0).trans rfl; have hcz105_1 : w104.cell? ⟨g128, 1, none⟩ = some (I q ab1) := (bc B128.out 1).trans rfl; have hcz105_2 : w104.cell? ⟨g128, 2, none⟩ = some (I q ab2) := (bc B128.out 2).trans rfl; have hcz105_3 : w104.cell? ⟨g128, 3, none⟩ = some (I q ab3) := (bc B128.out 3).trans rfl; have hcz105_4 : w104.cell? ⟨g128, 4, none⟩ = some (I q ab4) := (bc B128.out 4).trans rfl; have hcz105_5 : w104.cell? ⟨g128, 5, none⟩ = some (J Ab5 lb5.length cb5) := (bc B128.out 5).trans rfl; have hfz105_0 := bf B128.out 0; have hfz105_1 := bf B128.out 1; have hfz105_2 := bf B128.out 2; have hfz105_3 := bf B128.out 3; have hfz105_4 := bf B128.out 4; have hfz105_5 := bf B128.out 5) | ((with_reducible refine gate_callee (f := 15) rfl ?_); refine goesL_ (some 17) rfl rfl Try.func15 (by kernel_rfl) rfl #[.agg #[I q ab0, I q ab1, I q ab2, I q ab3, I q ab4, J Ab5 lb5.length cb5], I q t129] rfl (by (try simp only [List.map_toArray, List.map_cons, List.map_nil]); first | done | rfl | (simp only [List.length_drop, List.length_take]; rfl)) ?_; (with_reducible refine (laws_szPacket.calls ab0 ab1 ab2 ab3 ab4 _ _ lb5 t129 t130 _ ?side1 ?side2 A10.out).mono ?_); (case side1 => repeat (first | exact (Kd.C_below HR1_5.out HB.out) | (with_reducible refine ca ?_ _) | (with_reducible refine cN ?_ _) | (with_reducible refine cd1 ?_))); (case side2 => exact HC1_5.out); rintro e w106 ⟨rfl, hb⟩; refine ⟨_, rfl, ?_⟩; have N0 := am (bb (g := g127) (o := .cells #[I q aa0, I q aa1, I q aa2, I q aa3, I q aa4, J Aa5 la5.length ca5] 24 (0, 0)) (by (with_reducible repeat (first | apply bN | apply bd | apply ba)); exact B127.out) hb); have N1 := am (bb (g := g128) (o := .cells #[I q ab0, I q ab1, I q ab2, I q ab3, I q ab4, J Ab5 lb5.length cb5] 24 (0, 0)) (by (with_reducible repeat (first | apply bN | apply bd | apply ba)); exact B128.out) hb); have N2 := am (bp (by repeat (first | (with_reducible first | exact HB.out | apply pa | apply pN | apply p1 | refine bs ?_ E127.out | refine bs ?_ E128.out) | exact HB.out)) hb); clear B127 B128 HB; have B127 := N0; have B128 := N1; have HB := N2; clear N0 N1 N2; (try clear hb); (try clear hb2); (try clear hk); (try clear hi)))
            have N0 := am (bd B127.out)
            have N1 := am (bd B128.out)
            have N2 := am (p1 HB.out)
            clear B127
            clear B128
            clear HB
            have B127 := N0
            have B128 := N1
            have HB := N2
            clear N0 N1 N2
            refine start_ (n := 6) (S := fun w' => w'.cell? ⟨g127, 0, none⟩ = some (I q aa0) ∧ w'.cell? ⟨g127, 1, none⟩ = some (I q aa1) ∧ w'.cell? ⟨g127, 2, none⟩ = some (I q aa2) ∧ w'.cell? ⟨g127, 3, none⟩ = some (I q aa3) ∧ w'.cell? ⟨g127, 4, none⟩ = some (I q aa4) ∧ w'.cell? ⟨g127, 5, none⟩ = some (J Aa5 la5.length ca5) ∧ w'.cell? ⟨g128, 0, none⟩ = some (I q ab0) ∧ w'.cell? ⟨g128, 1, none⟩ = some (I q ab1) ∧ w'.cell? ⟨g128, 2, none⟩ = some (I q ab2) ∧ w'.cell? ⟨g128, 3, none⟩ = some (I q ab3) ∧ w'.cell? ⟨g128, 4, none⟩ = some (I q ab4) ∧ w'.cell? ⟨g128, 5, none⟩ = some (J Ab5 lb5.length cb5)) (ds := []) #[false, false, false, false, false, false] (by kernel_rfl) rfl rfl ⟨(bc B127.out 0).trans rfl, (bc B127.out 1).trans rfl, (bc B127.out 2).trans rfl, (bc B127.out 3).trans rfl, (bc B127.out 4).trans rfl, (bc B127.out 5).trans rfl, (bc B128.out 0).trans rfl, (bc B128.out 1).trans rfl, (bc B128.out 2).trans rfl, (bc B128.out 3).trans rfl, (bc B128.out 4).trans rfl, (bc B128.out 5).trans rfl⟩ (fun hHeld => ?_)
            generalize w106.drew = w107 at B127 B128 HB hHeld ⊢
            refine take_ (i := 0) (N := some 20) (v := ?_) (a' := ?_) #[true, false, false, false, false, false] rfl rfl (by kernel_rfl) (fun _ _ _ h => h) (Or.inl ⟨by rfl, ?_⟩) hHeld ?_ ?_
            rotate_left
            · rintro w' ⟨s0, s1, s2, s3, s4, s5, s6, s7, s8, s9, s10, s11⟩
              go_simp
              with_reducible rfl
            rotate_left
            · simp only [Act.put, List.setIfInBounds_toArray, List.set_cons_zero, List.set_cons_succ, i64_w, i32_w]
              rfl
            refine take_ (i := 2) (N := some 22) (v := ?_) (a' := ?_) #[true, false, true, false, false, false] rfl rfl (by kernel_rfl) (fun _ _ _ h => h) (Or.inl ⟨by rfl, ?_⟩) hHeld ?_ ?_
            rotate_left
            · rintro w' ⟨s0, s1, s2, s3, s4, s5, s6, s7, s8, s9, s10, s11⟩
              go_simp
              with_reducible rfl
            rotate_left
            · simp only [Act.put, List.setIfInBounds_toArray, List.set_cons_zero, List.set_cons_succ, i64_w, i32_w]
              rfl
            refine one_ (i := 1) (N := some 21) #[true, true, true, false, false, false] rfl rfl (by kernel_rfl) (by decide) (fun K hK => ?_)
            refine goes_ Try.func17 (by kernel_rfl) rfl #[.agg #[I q aa0, I q aa1, I q aa2, I q aa3, I q aa4, J Aa5 la5.length ca5]] (by rfl) rfl rfl (by (try simp only [List.map_toArray, List.map_cons, List.map_nil]); first | done | rfl | (simp only [List.length_drop, List.length_take]; rfl)) ?_
            with_reducible refine (laws_toPacket.calls k aa0 aa1 aa2 aa3 aa4 _ _ la5 t131 t132 t133 t134 t135 t136 _ ?side1 ?side2 A19.out).mono ?_
            (case side1 => repeat (first | exact (Kd.C_below HR0_5.out HB.out) | (with_reducible refine ca ?_ _) | (with_reducible refine cN ?_ _) | (with_reducible refine cd1 ?_)))
            (case side2 => exact HC0_5.out)
            rintro e w108 ⟨v137, rfl, ho0, hb⟩
            refine ⟨_, rfl, ?_⟩
            have N0 := am (rw1 ho0 (bz (by repeat (first | (with_reducible first | exact HB.out | apply pa | apply pN | apply p1 | refine bs ?_ E127.out | refine bs ?_ E128.out) | exact HB.out))))
            have N1 := am (bb (g := g127) (o := .cells #[I q aa0, I q aa1, I q aa2, I q aa3, I q aa4, J Aa5 la5.length ca5] 24 (0, 0)) (by (with_reducible repeat (first | apply bN | apply bd | apply ba)); exact B127.out) hb)
            have N2 := am (bb (g := g128) (o := .cells #[I q ab0, I q ab1, I q ab2, I q ab3, I q ab4, J Ab5 lb5.length cb5] 24 (0, 0)) (by (with_reducible repeat (first | apply bN | apply bd | apply ba)); exact B128.out) hb)
            have N3 := am (bp (by repeat (first | (with_reducible first | exact HB.out | apply pa | apply pN | apply p1 | refine bs ?_ E127.out | refine bs ?_ E128.out) | exact HB.out)) hb)
            clear B127
            clear B128
            clear HB
            have O138 := N0
            have B127 := N1
            have B128 := N2
            have HB := N3
            clear N0 N1 N2 N3
            (try clear hb)
            (try clear hb2)
            (try clear hk)
            (try clear hi)
            (try clear ho0)
            refine hK.out _ _ ⟨(bc B127.out 0).trans rfl, (bc B127.out 1).trans rfl, (bc B127.out 2).trans rfl, (bc B127.out 3).trans rfl, (bc B127.out 4).trans rfl, (bc B127.out 5).trans rfl, (bc B128.out 0).trans rfl, (bc B128.out 1).trans rfl, (bc B128.out 2).trans rfl, (bc B128.out 3).trans rfl, (bc B128.out 4).trans rfl, (bc B128.out 5).trans rfl⟩ (fun hHeld => ?_)
            clear hK K
            refine norm_ (a' := ?_) ?_ ?_
            rotate_left
            · show Act.put _ (some 21) _ = _
              simp only [Act.put, List.setIfInBounds_toArray, List.set_cons_zero, List.set_cons_succ, i64_w, i32_w]
              rfl
            refine one_ (i := 3) (N := some 23) #[true, true, true, true, false, false] rfl rfl (by kernel_rfl) (by decide) (fun K hK => ?_)
            refine goes_ Try.func17 (by kernel_rfl) rfl #[.agg #[I q ab0, I q ab1, I q ab2, I q ab3, I q ab4, J Ab5 lb5.length cb5]] (by rfl) rfl rfl (by (try simp only [List.map_toArray, List.map_cons, List.map_nil]); first | done | rfl | (simp only [List.length_drop, List.length_take]; rfl)) ?_
            with_reducible refine (laws_toPacket.calls k ab0 ab1 ab2 ab3 ab4 _ _ lb5 t139 t140 t141 t142 t143 t144 _ ?side1 ?side2 A20.out).mono ?_
            (case side1 => repeat (first | exact (Kd.C_below HR1_5.out HB.out) | (with_reducible refine ca ?_ _) | (with_reducible refine cN ?_ _) | (with_reducible refine cd1 ?_)))
            (case side2 => exact HC1_5.out)
            rintro e w109 ⟨v145, rfl, ho0, hb⟩
            refine ⟨_, rfl, ?_⟩
            have N0 := am (re (by (with_reducible repeat (first | apply ra | apply rN | apply rd1)); exact O138.out) (Kd.R_base ho0) hb)
            have N1 := am (rw1 (rn ho0 (rl (by (with_reducible repeat (first | apply ra | apply rN | apply rd1)); exact O138.out))) (bz (by repeat (first | (with_reducible first | exact HB.out | apply pa | apply pN | apply p1 | refine bs ?_ E127.out | refine bs ?_ E128.out) | exact HB.out))))
            have N2 := am (bb (g := g127) (o := .cells #[I q aa0, I q aa1, I q aa2, I q aa3, I q aa4, J Aa5 la5.length ca5] 24 (0, 0)) (by (with_reducible repeat (first | apply bN | apply bd | apply ba)); exact B127.out) hb)
            have N3 := am (bb (g := g128) (o := .cells #[I q ab0, I q ab1, I q ab2, I q ab3, I q ab4, J Ab5 lb5.length cb5] 24 (0, 0)) (by (with_reducible repeat (first | apply bN | apply bd | apply ba)); exact B128.out) hb)
            have N4 := am (bp (by repeat (first | (with_reducible first | exact HB.out | apply pa | apply pN | apply p1 | refine bs ?_ E127.out | refine bs ?_ E128.out) | exact HB.out)) hb)
            clear O138
            clear B127
            clear B128
            clear HB
            have O138 := N0
            have O146 := N1
            have B127 := N2
            have B128 := N3
            have HB := N4
            clear N0 N1 N2 N3 N4
            (try clear hb)
            (try clear hb2)
            (try clear hk)
            (try clear hi)
            (try clear ho0)
            obtain ⟨Ao110, co110, eo110⟩ := Kd.R_slice O138.out
            (first | subst eo110 | (injection eo110 with f1_ f2_ f3_; have f4_ := f1_.symm; have f5_ := f3_.symm; clear f1_ f2_ f3_; subst f4_; subst f5_))
            obtain ⟨Ao111, co111, eo111⟩ := Kd.R_slice O146.out
            (first | subst eo111 | (injection eo111 with f1_ f2_ f3_; have f4_ := f1_.symm; have f5_ := f3_.symm; clear f1_ f2_ f3_; subst f4_; subst f5_))
            refine hK.out _ _ ⟨(bc B127.out 0).trans rfl, (bc B127.out 1).trans rfl, (bc B127.out 2).trans rfl, (bc B127.out 3).trans rfl, (bc B127.out 4).trans rfl, (bc B127.out 5).trans rfl, (bc B128.out 0).trans rfl, (bc B128.out 1).trans rfl, (bc B128.out 2).trans rfl, (bc B128.out 3).trans rfl, (bc B128.out 4).trans rfl, (bc B128.out 5).trans rfl⟩ (fun hHeld => ?_)
            clear hK K
            refine norm_ (a' := ?_) ?_ ?_
            rotate_left
            · show Act.put _ (some 23) _ = _
              simp only [Act.put, List.setIfInBounds_toArray, List.set_cons_zero, List.set_cons_succ, i64_w, i32_w]
              rfl
            refine one_ (i := 4) (N := some 24) #[true, true, true, true, true, false] rfl rfl (by kernel_rfl) (by decide) (fun K hK => ?_)
            refine goes_ Try.func16 (by kernel_rfl) rfl #[.agg #[I q t131, I q t132, I q t133, I q t134, I q t135, J Ao110 t136.length co110], .agg #[I q t139, I q t140, I q t141, I q t142, I q t143, J Ao111 t144.length co111]] (by rfl) rfl rfl (by (try simp only [List.map_toArray, List.map_cons, List.map_nil]); first | done | rfl | (simp only [List.length_drop, List.length_take]; rfl)) ?_
            with_reducible refine (spec_SamePacket.calls t131 t132 t133 t134 t135 _ _ t136 t139 t140 t141 t142 t143 _ _ t144 t147 _ ?side1 ?side2 ?side3 ?side4 A21.out).mono ?_
            (case side1 => repeat (first | exact (Kd.R_reads' O138.out).2.2 | (with_reducible refine ca ?_ _) | (with_reducible refine cN ?_ _) | (with_reducible refine cd1 ?_)))
            (case side2 => exact (Kd.R_reads' O138.out).2.1)
            (case side3 => repeat (first | exact (Kd.R_reads' O146.out).2.2 | (with_reducible refine ca ?_ _) | (with_reducible refine cN ?_ _) | (with_reducible refine cd1 ?_)))
            (case side4 => exact (Kd.R_reads' O146.out).2.1)
            rintro e w112 ⟨rfl, hb⟩
            refine ⟨_, rfl, ?_⟩
            have N0 := am (rb (by (with_reducible repeat (first | apply ra | apply rN | apply rd1)); exact O138.out) hb)
            have N1 := am (rb (by (with_reducible repeat (first | apply ra | apply rN | apply rd1)); exact O146.out) hb)
            have N2 := am (bb (g := g127) (o := .cells #[I q aa0, I q aa1, I q aa2, I q aa3, I q aa4, J Aa5 la5.length ca5] 24 (0, 0)) (by (with_reducible repeat (first | apply bN | apply bd | apply ba)); exact B127.out) hb)
            have N3 := am (bb (g := g128) (o := .cells #[I q ab0, I q ab1, I q ab2, I q ab3, I q ab4, J Ab5 lb5.length cb5] 24 (0, 0)) (by (with_reducible repeat (first | apply bN | apply bd | apply ba)); exact B128.out) hb)
            have N4 := am (bp (by repeat (first | (with_reducible first | exact HB.out | apply pa | apply pN | apply p1 | refine bs ?_ E127.out | refine bs ?_ E128.out) | exact HB.out)) hb)
            clear O138
            clear O146
            clear B127
            clear B128
            clear HB
            have O138 := N0
            have O146 := N1
            have B127 := N2
            have B128 := N3
            have HB := N4
            clear N0 N1 N2 N3 N4
            (try clear hb)
            (try clear hb2)
            (try clear hk)
            (try clear hi)
            refine hK.out _ _ ⟨(bc B127.out 0).trans rfl, (bc B127.out 1).trans rfl, (bc B127.out 2).trans rfl, (bc B127.out 3).trans rfl, (bc B127.out 4).trans rfl, (bc B127.out 5).trans rfl, (bc B128.out 0).trans rfl, (bc B128.out 1).trans rfl, (bc B128.out 2).trans rfl, (bc B128.out 3).trans rfl, (bc B128.out 4).trans rfl, (bc B128.out 5).trans rfl⟩ (fun hHeld => ?_)
            clear hK K
            refine norm_ (a' := ?_) ?_ ?_
            rotate_left
            · show Act.put _ (some 24) _ = _
              simp only [Act.put, List.setIfInBounds_toArray, List.set_cons_zero, List.set_cons_succ, i64_w, i32_w]
              rfl
            refine pure_ (i := 5) (N := some 6) (v := ?_) (a' := ?_) #[true, true, true, true, true, true] rfl rfl (by kernel_rfl) (fun _ _ _ h => h) (Or.inl ⟨by rfl, ?_⟩) ?_ ?_
            rotate_left
            · intro w'
              first | (go_simp; with_reducible rfl) | (go_simp; (try unfold Instr.field); go_simp; (try simp only [asAgg]); go_simp; with_reducible rfl)
            rotate_left
            · simp only [Act.put, List.setIfInBounds_toArray, List.set_cons_zero, List.set_cons_succ, i64_w, i32_w]
              rfl
            refine done_ (by kernel_rfl) ?_
            have hcz113_0 : w112.cell? ⟨g127, 0, none⟩ = some (I q aa0) := (bc B127.out 0).trans rfl
            have hcz113_1 : w112.cell? ⟨g127, 1, none⟩ = some (I q aa1) := (bc B127.out 1).trans rfl
            have hcz113_2 : w112.cell? ⟨g127, 2, none⟩ = some (I q aa2) := (bc B127.out 2).trans rfl
            have hcz113_3 : w112.cell? ⟨g127, 3, none⟩ = some (I q aa3) := (bc B127.out 3).trans rfl
            have hcz113_4 : w112.cell? ⟨g127, 4, none⟩ = some (I q aa4) := (bc B127.out 4).trans rfl
            have hcz113_5 : w112.cell? ⟨g127, 5, none⟩ = some (J Aa5 la5.length ca5) := (bc B127.out 5).trans rfl
            have hfz113_0 := bf B127.out 0
            have hfz113_1 := bf B127.out 1
            have hfz113_2 := bf B127.out 2
            have hfz113_3 := bf B127.out 3
            have hfz113_4 := bf B127.out 4
            have hfz113_5 := bf B127.out 5
            try go_wp2_with (first | ((with_reducible refine gate_callee (f := 17) rfl ?_); refine goesL_ (some 26) rfl rfl Try.func17 (by kernel_rfl) rfl #[.agg #[I q aa0, I q aa1, I q aa2, I q aa3, I q aa4, J Aa5 la5.length ca5]] rfl (by (try simp only [List.map_toArray, List.map_cons, List.map_nil]); first | done | rfl | (simp only [List.length_drop, List.length_take]; rfl)) ?_; (with_reducible refine (laws_toPacket.calls k aa0 aa1 aa2 aa3 aa4 _ _ la5 t148 t149 t150 t151 t152 t153 _ ?side1 ?side2 A22.out).mono ?_); (case side1 => repeat (first | exact (Kd.C_below HR0_5.out HB.out) | (with_reducible refine ca ?_ _) | (with_reducible refine cN ?_ _) | (with_reducible refine cd1 ?_))); (case side2 => exact HC0_5.out); rintro e w114 ⟨v154, rfl, ho0, hb⟩; refine ⟨_, rfl, ?_⟩; have N0 := am (re (by (with_reducible repeat (first | apply ra | apply rN | apply rd1)); exact O138.out) (Kd.R_base ho0) hb); have N1 := am (re (by (with_reducible repeat (first | apply ra | apply rN | apply rd1)); exact O146.out) (Kd.R_base ho0) hb); have N2 := am (rw1 (rn (rn ho0 (rl (by (with_reducible repeat (first | apply ra | apply rN | apply rd1)); exact O138.out))) (rl (by (with_reducible repeat (first | apply ra | apply rN | apply rd1)); exact O146.out))) (bz (by repeat (first | (with_reducible first | exact HB.out | apply pa | apply pN | apply p1 | refine bs ?_ E127.out | refine bs ?_ E128.out) | exact HB.out)))); have N3 := am (bb (g := g127) (o := .cells #[I q aa0, I q aa1, I q aa2, I q aa3, I q aa4, J Aa5 la5.length ca5] 24 (0, 0)) (by (with_reducible repeat (first | apply bN | apply bd | apply ba)); exact B127.out) hb); have N4 := am (bb (g := g128) (o := .cells #[I q ab0, I q ab1, I q ab2, I q ab3, I q ab4, J Ab5 lb5.length cb5] 24 (0, 0)) (by (with_reducible repeat (first | apply bN | apply bd | apply ba)); exact B128.out) hb); have N5 := am (bp (by repeat (first | (with_reducible first | exact HB.out | apply pa | apply pN | apply p1 | refine bs ?_ E127.out | refine bs ?_ E128.out) | exact HB.out)) hb); clear O138 O146 B127 B128 HB; have O138 := N0; have O146 := N1; have O155 := N2; have B127 := N3; have B128 := N4; have HB := N5; clear N0 N1 N2 N3 N4 N5; (try clear hb); (try clear hb2); (try clear hk); (try clear hi); (try clear ho0)) | ((with_reducible refine gate_dst (N := 7) rfl ?_); refine box_event ?hg (N := 7) ?hd (cs := #[I q 0, I q 0, I q 0, I q 0, I q 0, .slice none 0 0]) (t := 27) ?hr ?_; (case hd => rfl); (case hg => rfl); (case hr => first | (go_simp; done) | (go_simp; rfl)); intro g156 hg w115 hbox hb; have N0 := am (rb (by (with_reducible repeat (first | apply ra | apply rN | apply rd1)); exact O138.out) hb); have N1 := am (rb (by (with_reducible repeat (first | apply ra | apply rN | apply rd1)); exact O146.out) hb); have N2 := am (rb (by (with_reducible repeat (first | apply ra | apply rN | apply rd1)); exact O155.out) hb); have N3 := am (bb (g := g127) (o := .cells #[I q aa0, I q aa1, I q aa2, I q aa3, I q aa4, J Aa5 la5.length ca5] 24 (0, 0)) (by (with_reducible repeat (first | apply bN | apply bd | apply ba)); exact B127.out) hb); have N4 := am (bb (g := g128) (o := .cells #[I q ab0, I q ab1, I q ab2, I q ab3, I q ab4, J Ab5 lb5.length cb5] 24 (0, 0)) (by (with_reducible repeat (first | apply bN | apply bd | apply ba)); exact B128.out) hb); have N5 := am (bp (by repeat (first | (with_reducible first | exact HB.out | apply pa | apply pN | apply p1 | refine bs ?_ E127.out | refine bs ?_ E128.out) | exact HB.out)) hb); have N6 := am (hbox); have N7 := am ((by rw [hg]; exact (bz (by repeat (first | (with_reducible first | exact HB.out | apply pa | apply pN | apply p1 | refine bs ?_ E127.out | refine bs ?_ E128.out) | exact HB.out))) : w.heap.size ≤ g156)); have N8 := am ((by rw [hg]; exact (bz (by repeat (first | (with_reducible first | exact HB.out | apply pa | apply pN | apply p1 | refine bs ?_ E127.out | refine bs ?_ E128.out) | exact HB.out))) : w.heap.size ≤ g156)); have N9 := am ((by rw [hg]; exact Nat.ne_of_lt (bl (g := g127) (o := .cells #[I q aa0, I q aa1, I q aa2, I q aa3, I q aa4, J Aa5 la5.length ca5] 24 (0, 0)) (by (with_reducible repeat (first | apply bN | apply bd | apply ba)); exact B127.out)) : g127 ≠ g156)); have N10 := am ((by rw [hg]; exact Nat.ne_of_gt (bl (g := g127) (o := .cells #[I q aa0, I q aa1, I q aa2, I q aa3, I q aa4, J Aa5 la5.length ca5] 24 (0, 0)) (by (with_reducible repeat (first | apply bN | apply bd | apply ba)); exact B127.out)) : g156 ≠ g127)); have N11 := am ((by rw [hg]; exact Nat.ne_of_lt (bl (g := g128) (o := .cells #[I q ab0, I q ab1, I q ab2, I q ab3, I q ab4, J Ab5 lb5.length cb5] 24 (0, 0)) (by (with_reducible repeat (first | apply bN | apply bd | apply ba)); exact B128.out)) : g128 ≠ g156)); have N12 := am ((by rw [hg]; exact Nat.ne_of_gt (bl (g := g128) (o := .cells #[I q ab0, I q ab1, I q ab2, I q ab3, I q ab4, J Ab5 lb5.length cb5] 24 (0, 0)) (by (with_reducible repeat (first | apply bN | apply bd | apply ba)); exact B128.out)) : g156 ≠ g128)); clear O138 O146 O155 B127 B128 HB; have O138 := N0; have O146 := N1; have O155 := N2; have B127 := N3; have B128 := N4; have HB := N5; have B156 := N6; have GW156 := N7; have E156 := N8; have NB127_156 := N9; have NB156_127 := N10; have NB128_156 := N11; have NB156_128 := N12; clear N0 N1 N2 N3 N4 N5 N6 N7 N8 N9 N10 N11 N12 hb hbox hg; have hnb116 := NB156_127.out; have hnc116 := NB127_156.out; have hnb117 := NB156_128.out; have hnc117 := NB128_156.out; have hcz118_0 : w115.cell? ⟨g156, 0, none⟩ = some (I q 0) := (bc B156.out 0).trans rfl; have hcz118_1 : w115.cell? ⟨g156, 1, none⟩ = some (I q 0) := (bc B156.out 1).trans rfl; have hcz118_2 : w115.cell? ⟨g156, 2, none⟩ = some (I q 0) := (bc B156.out 2).trans rfl; have hcz118_3 : w115.cell? ⟨g156, 3, none⟩ = some (I q 0) := (bc B156.out 3).trans rfl; have hcz118_4 : w115.cell? ⟨g156, 4, none⟩ = some (I q 0) := (bc B156.out 4).trans rfl; have hcz118_5 : w115.cell? ⟨g156, 5, none⟩ = some (.slice none 0 0) := (bc B156.out 5).trans rfl; have hfz118_0 := bf B156.out 0; have hfz118_1 := bf B156.out 1; have hfz118_2 := bf B156.out 2; have hfz118_3 := bf B156.out 3; have hfz118_4 := bf B156.out 4; have hfz118_5 := bf B156.out 5; obtain ⟨Ao119, co119, eo119⟩ := Kd.R_slice O155.out; subst eo119; have hcz120_0 : w115.cell? ⟨g128, 0, none⟩ = some (I q ab0) := (bc B128.out 0).trans rfl; have hcz120_1 : w115.cell? ⟨g128, 1, none⟩ = some (I q ab1) := (bc B128.out 1).trans rfl; have hcz120_2 : w115.cell? ⟨g128, 2, none⟩ = some (I q ab2) := (bc B128.out 2).trans rfl; have hcz120_3 : w115.cell? ⟨g128, 3, none⟩ = some (I q ab3) := (bc B128.out 3).trans rfl; have hcz120_4 : w115.cell? ⟨g128, 4, none⟩ = some (I q ab4) := (bc B128.out 4).trans rfl; have hcz120_5 : w115.cell? ⟨g128, 5, none⟩ = some (J Ab5 lb5.length cb5) := (bc B128.out 5).trans rfl; have hfz120_0 := bf B128.out 0; have hfz120_1 := bf B128.out 1; have hfz120_2 := bf B128.out 2; have hfz120_3 := bf B128.out 3; have hfz120_4 := bf B128.out 4; have hfz120_5 := bf B128.out 5) | ((with_reducible refine gate_callee (f := 17) rfl ?_); refine goesL_ (some 28) rfl rfl Try.func17 (by kernel_rfl) rfl #[.agg #[I q ab0, I q ab1, I q ab2, I q ab3, I q ab4, J Ab5 lb5.length cb5]] rfl (by (try simp only [List.map_toArray, List.map_cons, List.map_nil]); first | done | rfl | (simp only [List.length_drop, List.length_take]; rfl)) ?_; (with_reducible refine (laws_toPacket.calls k ab0 ab1 ab2 ab3 ab4 _ _ lb5 t157 t158 t159 t160 t161 t162 _ ?side1 ?side2 A23.out).mono ?_); (case side1 => exact Kd.C_below HR1_5.out (by repeat (first | (with_reducible first | exact HB.out | apply pa | apply pN | apply p1 | refine bs ?_ E127.out | refine bs ?_ E128.out | refine bs ?_ E156.out) | exact HB.out))); (case side2 => exact HC1_5.out); rintro e w121 ⟨v163, rfl, ho0, hb⟩; refine ⟨_, rfl, ?_⟩; have N0 := am (re (by (with_reducible repeat (first | apply ra | apply rN | apply rd1)); exact (Kd.R_mono (rf (p := ⟨g156, 5, none⟩) (rf (p := ⟨g156, 4, none⟩) (rf (p := ⟨g156, 3, none⟩) (rf (p := ⟨g156, 2, none⟩) (rf (p := ⟨g156, 1, none⟩) (rf (p := ⟨g156, 0, none⟩) (Kd.R_types O138.out B156.out (by decide)) (fun _ hk => hk.2) (I q t148)) (fun _ hk => hk.2) (I q t149)) (fun _ hk => hk.2) (I q t150)) (fun _ hk => hk.2) (I q t151)) (fun _ hk => hk.2) (I q t152)) (fun _ hk => hk.2) (J Ao119 t153.length co119)) (fun _ h_ => h_.1))) (Kd.R_base ho0) hb); have N1 := am (re (by (with_reducible repeat (first | apply ra | apply rN | apply rd1)); exact (Kd.R_mono (rf (p := ⟨g156, 5, none⟩) (rf (p := ⟨g156, 4, none⟩) (rf (p := ⟨g156, 3, none⟩) (rf (p := ⟨g156, 2, none⟩) (rf (p := ⟨g156, 1, none⟩) (rf (p := ⟨g156, 0, none⟩) (Kd.R_types O146.out B156.out (by decide)) (fun _ hk => hk.2) (I q t148)) (fun _ hk => hk.2) (I q t149)) (fun _ hk => hk.2) (I q t150)) (fun _ hk => hk.2) (I q t151)) (fun _ hk => hk.2) (I q t152)) (fun _ hk => hk.2) (J Ao119 t153.length co119)) (fun _ h_ => h_.1))) (Kd.R_base ho0) hb); have N2 := am (re (by (with_reducible repeat (first | apply ra | apply rN | apply rd1)); exact (Kd.R_mono (rf (p := ⟨g156, 5, none⟩) (rf (p := ⟨g156, 4, none⟩) (rf (p := ⟨g156, 3, none⟩) (rf (p := ⟨g156, 2, none⟩) (rf (p := ⟨g156, 1, none⟩) (rf (p := ⟨g156, 0, none⟩) (Kd.R_types O155.out B156.out (by decide)) (fun _ hk => hk.2) (I q t148)) (fun _ hk => hk.2) (I q t149)) (fun _ hk => hk.2) (I q t150)) (fun _ hk => hk.2) (I q t151)) (fun _ hk => hk.2) (I q t152)) (fun _ hk => hk.2) (J Ao119 t153.length co119)) (fun _ h_ => h_.1))) (Kd.R_base ho0) hb); have N3 := am (rw1 (rn (rn (rn ho0 (rl (by (with_reducible repeat (first | apply ra | apply rN | apply rd1)); exact (Kd.R_mono (rf (p := ⟨g156, 5, none⟩) (rf (p := ⟨g156, 4, none⟩) (rf (p := ⟨g156, 3, none⟩) (rf (p := ⟨g156, 2, none⟩) (rf (p := ⟨g156, 1, none⟩) (rf (p := ⟨g156, 0, none⟩) (Kd.R_types O138.out B156.out (by decide)) (fun _ hk => hk.2) (I q t148)) (fun _ hk => hk.2) (I q t149)) (fun _ hk => hk.2) (I q t150)) (fun _ hk => hk.2) (I q t151)) (fun _ hk => hk.2) (I q t152)) (fun _ hk => hk.2) (J Ao119 t153.length co119)) (fun _ h_ => h_.1))))) (rl (by (with_reducible repeat (first | apply ra | apply rN | apply rd1)); exact (Kd.R_mono (rf (p := ⟨g156, 5, none⟩) (rf (p := ⟨g156, 4, none⟩) (rf (p := ⟨g156, 3, none⟩) (rf (p := ⟨g156, 2, none⟩) (rf (p := ⟨g156, 1, none⟩) (rf (p := ⟨g156, 0, none⟩) (Kd.R_types O146.out B156.out (by decide)) (fun _ hk => hk.2) (I q t148)) (fun _ hk => hk.2) (I q t149)) (fun _ hk => hk.2) (I q t150)) (fun _ hk => hk.2) (I q t151)) (fun _ hk => hk.2) (I q t152)) (fun _ hk => hk.2) (J Ao119 t153.length co119)) (fun _ h_ => h_.1))))) (rl (by (with_reducible repeat (first | apply ra | apply rN | apply rd1)); exact (Kd.R_mono (rf (p := ⟨g156, 5, none⟩) (rf (p := ⟨g156, 4, none⟩) (rf (p := ⟨g156, 3, none⟩) (rf (p := ⟨g156, 2, none⟩) (rf (p := ⟨g156, 1, none⟩) (rf (p := ⟨g156, 0, none⟩) (Kd.R_types O155.out B156.out (by decide)) (fun _ hk => hk.2) (I q t148)) (fun _ hk => hk.2) (I q t149)) (fun _ hk => hk.2) (I q t150)) (fun _ hk => hk.2) (I q t151)) (fun _ hk => hk.2) (I q t152)) (fun _ hk => hk.2) (J Ao119 t153.length co119)) (fun _ h_ => h_.1))))) (bz (by repeat (first | (with_reducible first | exact HB.out | apply pa | apply pN | apply p1 | refine bs ?_ E127.out | refine bs ?_ E128.out | refine bs ?_ E156.out) | exact HB.out)))); have N4 := am (bb (g := g127) (o := .cells #[I q aa0, I q aa1, I q aa2, I q aa3, I q aa4, J Aa5 la5.length ca5] 24 (0, 0)) (by (with_reducible repeat (first | apply bN | apply bd | apply ba)); refine bq ?_ NB127_156.out _; (with_reducible repeat (first | apply bN | apply bd | apply ba)); refine bq ?_ NB127_156.out _; (with_reducible repeat (first | apply bN | apply bd | apply ba)); refine bq ?_ NB127_156.out _; (with_reducible repeat (first | apply bN | apply bd | apply ba)); refine bq ?_ NB127_156.out _; (with_reducible repeat (first | apply bN | apply bd | apply ba)); refine bq ?_ NB127_156.out _; (with_reducible repeat (first | apply bN | apply bd | apply ba)); refine bq ?_ NB127_156.out _; (with_reducible repeat (first | apply bN | apply bd | apply ba)); exact B127.out) hb); have N5 := am (bb (g := g128) (o := .cells #[I q ab0, I q ab1, I q ab2, I q ab3, I q ab4, J Ab5 lb5.length cb5] 24 (0, 0)) (by (with_reducible repeat (first | apply bN | apply bd | apply ba)); refine bq ?_ NB128_156.out _; (with_reducible repeat (first | apply bN | apply bd | apply ba)); refine bq ?_ NB128_156.out _; (with_reducible repeat (first | apply bN | apply bd | apply ba)); refine bq ?_ NB128_156.out _; (with_reducible repeat (first | apply bN | apply bd | apply ba)); refine bq ?_ NB128_156.out _; (with_reducible repeat (first | apply bN | apply bd | apply ba)); refine bq ?_ NB128_156.out _; (with_reducible repeat (first | apply bN | apply bd | apply ba)); refine bq ?_ NB128_156.out _; (with_reducible repeat (first | apply bN | apply bd | apply ba)); exact B128.out) hb); have N6 := am (bb (g := g156) (o := .cells #[I q t148, I q t149, I q t150, I q t151, I q t152, J Ao119 t153.length co119] 27 (0, 0)) (by (with_reducible repeat (first | apply bN | apply bd | apply ba)); refine blk_put (cs := #[I q t148, I q t149, I q t150, I q t151, I q t152, .slice none 0 0]) ?_ 5 _ rfl; (with_reducible repeat (first | apply bN | apply bd | apply ba)); refine blk_put (cs := #[I q t148, I q t149, I q t150, I q t151, I q 0, .slice none 0 0]) ?_ 4 _ rfl; (with_reducible repeat (first | apply bN | apply bd | apply ba)); refine blk_put (cs := #[I q t148, I q t149, I q t150, I q 0, I q 0, .slice none 0 0]) ?_ 3 _ rfl; (with_reducible repeat (first | apply bN | apply bd | apply ba)); refine blk_put (cs := #[I q t148, I q t149, I q 0, I q 0, I q 0, .slice none 0 0]) ?_ 2 _ rfl; (with_reducible repeat (first | apply bN | apply bd | apply ba)); refine blk_put (cs := #[I q t148, I q 0, I q 0, I q 0, I q 0, .slice none 0 0]) ?_ 1 _ rfl; (with_reducible repeat (first | apply bN | apply bd | apply ba)); refine blk_put (cs := #[I q 0, I q 0, I q 0, I q 0, I q 0, .slice none 0 0]) ?_ 0 _ rfl; (with_reducible repeat (first | apply bN | apply bd | apply ba)); exact B156.out) hb); have N7 := am (bp (by repeat (first | (with_reducible first | exact HB.out | apply pa | apply pN | apply p1 | refine bs ?_ E127.out | refine bs ?_ E128.out | refine bs ?_ E156.out) | exact HB.out)) hb); clear O138 O146 O155 B127 B128 B156 HB; have O138 := N0; have O146 := N1; have O155 := N2; have O164 := N3; have B127 := N4; have B128 := N5; have B156 := N6; have HB := N7; clear N0 N1 N2 N3 N4 N5 N6 N7; (try clear hb); (try clear hb2); (try clear hk); (try clear hi); (try clear ho0)) | ((with_reducible refine gate_dst (N := 8) rfl ?_); refine box_event ?hg (N := 8) ?hd (cs := #[I q 0, I q 0, I q 0, I q 0, I q 0, .slice none 0 0]) (t := 27) ?hr ?_; (case hd => rfl); (case hg => rfl); (case hr => first | (go_simp; done) | (go_simp; rfl)); intro g165 hg w122 hbox hb; have N0 := am (rb (by (with_reducible repeat (first | apply ra | apply rN | apply rd1)); exact O138.out) hb); have N1 := am (rb (by (with_reducible repeat (first | apply ra | apply rN | apply rd1)); exact O146.out) hb); have N2 := am (rb (by (with_reducible repeat (first | apply ra | apply rN | apply rd1)); exact O155.out) hb); have N3 := am (rb (by (with_reducible repeat (first | apply ra | apply rN | apply rd1)); exact O164.out) hb); have N4 := am (bb (g := g127) (o := .cells #[I q aa0, I q aa1, I q aa2, I q aa3, I q aa4, J Aa5 la5.length ca5] 24 (0, 0)) (by (with_reducible repeat (first | apply bN | apply bd | apply ba)); exact B127.out) hb); have N5 := am (bb (g := g128) (o := .cells #[I q ab0, I q ab1, I q ab2, I q ab3, I q ab4, J Ab5 lb5.length cb5] 24 (0, 0)) (by (with_reducible repeat (first | apply bN | apply bd | apply ba)); exact B128.out) hb); have N6 := am (bb (g := g156) (o := .cells #[I q t148, I q t149, I q t150, I q t151, I q t152, J Ao119 t153.length co119] 27 (0, 0)) (by (with_reducible repeat (first | apply bN | apply bd | apply ba)); exact B156.out) hb); have N7 := am (bp (by repeat (first | (with_reducible first | exact HB.out | apply pa | apply pN | apply p1 | refine bs ?_ E127.out | refine bs ?_ E128.out | refine bs ?_ E156.out) | exact HB.out)) hb); have N8 := am (hbox); have N9 := am ((by rw [hg]; exact (bz (by repeat (first | (with_reducible first | exact HB.out | apply pa | apply pN | apply p1 | refine bs ?_ E127.out | refine bs ?_ E128.out | refine bs ?_ E156.out) | exact HB.out))) : w.heap.size ≤ g165)); have N10 := am ((by rw [hg]; exact (bz (by repeat (first | (with_reducible first | exact HB.out | apply pa | apply pN | apply p1 | refine bs ?_ E127.out | refine bs ?_ E128.out | refine bs ?_ E156.out) | exact HB.out))) : w.heap.size ≤ g165)); have N11 := am ((by rw [hg]; exact Nat.ne_of_lt (bl (g := g127) (o := .cells #[I q aa0, I q aa1, I q aa2, I q aa3, I q aa4, J Aa5 la5.length ca5] 24 (0, 0)) (by (with_reducible repeat (first | apply bN | apply bd | apply ba)); exact B127.out)) : g127 ≠ g165)); have N12 := am ((by rw [hg]; exact Nat.ne_of_gt (bl (g := g127) (o := .cells #[I q aa0, I q aa1, I q aa2, I q aa3, I q aa4, J Aa5 la5.length ca5] 24 (0, 0)) (by (with_reducible repeat (first | apply bN | apply bd | apply ba)); exact B127.out)) : g165 ≠ g127)); have N13 := am ((by rw [hg]; exact Nat.ne_of_lt (bl (g := g128) (o := .cells #[I q ab0, I q ab1, I q ab2, I q ab3, I q ab4, J Ab5 lb5.length cb5] 24 (0, 0)) (by (with_reducible repeat (first | apply bN | apply bd | apply ba)); exact B128.out)) : g128 ≠ g165)); have N14 := am ((by rw [hg]; exact Nat.ne_of_gt (bl (g := g128) (o := .cells #[I q ab0, I q ab1, I q ab2, I q ab3, I q ab4, J Ab5 lb5.length cb5] 24 (0, 0)) (by (with_reducible repeat (first | apply bN | apply bd | apply ba)); exact B128.out)) : g165 ≠ g128)); have N15 := am ((by rw [hg]; exact Nat.ne_of_lt (bl (g := g156) (o := .cells #[I q t148, I q t149, I q t150, I q t151, I q t152, J Ao119 t153.length co119] 27 (0, 0)) (by (with_reducible repeat (first | apply bN | apply bd | apply ba)); exact B156.out)) : g156 ≠ g165)); have N16 := am ((by rw [hg]; exact Nat.ne_of_gt (bl (g := g156) (o := .cells #[I q t148, I q t149, I q t150, I q t151, I q t152, J Ao119 t153.length co119] 27 (0, 0)) (by (with_reducible repeat (first | apply bN | apply bd | apply ba)); exact B156.out)) : g165 ≠ g156)); clear O138 O146 O155 O164 B127 B128 B156 HB; have O138 := N0; have O146 := N1; have O155 := N2; have O164 := N3; have B127 := N4; have B128 := N5; have B156 := N6; have HB := N7; have B165 := N8; have GW165 := N9; have E165 := N10; have NB127_165 := N11; have NB165_127 := N12; have NB128_165 := N13; have NB165_128 := N14; have NB156_165 := N15; have NB165_156 := N16; clear N0 N1 N2 N3 N4 N5 N6 N7 N8 N9 N10 N11 N12 N13 N14 N15 N16 hb hbox hg; have hnb123 := NB165_127.out; have hnc123 := NB127_165.out; have hnb124 := NB165_128.out; have hnc124 := NB128_165.out; have hnb125 := NB165_156.out; have hnc125 := NB156_165.out; have hcz126_0 : w122.cell? ⟨g165, 0, none⟩ = some (I q 0) := (bc B165.out 0).trans rfl; have hcz126_1 : w122.cell? ⟨g165, 1, none⟩ = some (I q 0) := (bc B165.out 1).trans rfl; have hcz126_2 : w122.cell? ⟨g165, 2, none⟩ = some (I q 0) := (bc B165.out 2).trans rfl; have hcz126_3 : w122.cell? ⟨g165, 3, none⟩ = some (I q 0) := (bc B165.out 3).trans rfl; have hcz126_4 : w122.cell? ⟨g165, 4, none⟩ = some (I q 0) := (bc B165.out 4).trans rfl; have hcz126_5 : w122.cell? ⟨g165, 5, none⟩ = some (.slice none 0 0) := (bc B165.out 5).trans rfl; have hfz126_0 := bf B165.out 0; have hfz126_1 := bf B165.out 1; have hfz126_2 := bf B165.out 2; have hfz126_3 := bf B165.out 3; have hfz126_4 := bf B165.out 4; have hfz126_5 := bf B165.out 5; obtain ⟨Ao127, co127, eo127⟩ := Kd.R_slice O164.out; subst eo127; have hcz128_0 : w122.cell? ⟨g156, 0, none⟩ = some (I q t148) := (bc B156.out 0).trans rfl; have hcz128_1 : w122.cell? ⟨g156, 1, none⟩ = some (I q t149) := (bc B156.out 1).trans rfl; have hcz128_2 : w122.cell? ⟨g156, 2, none⟩ = some (I q t150) := (bc B156.out 2).trans rfl; have hcz128_3 : w122.cell? ⟨g156, 3, none⟩ = some (I q t151) := (bc B156.out 3).trans rfl; have hcz128_4 : w122.cell? ⟨g156, 4, none⟩ = some (I q t152) := (bc B156.out 4).trans rfl; have hcz128_5 : w122.cell? ⟨g156, 5, none⟩ = some (J Ao119 t153.length co119) := (bc B156.out 5).trans rfl; have hfz128_0 := bf B156.out 0; have hfz128_1 := bf B156.out 1; have hfz128_2 := bf B156.out 2; have hfz128_3 := bf B156.out 3; have hfz128_4 := bf B156.out 4; have hfz128_5 := bf B156.out 5) | ((with_reducible refine gate_callee (f := 18) rfl ?_); refine goesL_ (some 31) rfl rfl Try.func18 (by kernel_rfl) rfl #[.agg #[I q t148, I q t149, I q t150, I q t151, I q t152, J Ao119 t153.length co119], .agg #[I q t157, I q t158, I q t159, I q t160, I q t161, J Ao127 t162.length co127]] rfl (by (try simp only [List.map_toArray, List.map_cons, List.map_nil]); first | done | rfl | (simp only [List.length_drop, List.length_take]; rfl)) ?_; (with_reducible refine (impl_SamePacket.calls t148 t149 t150 t151 t152 _ _ t153 t157 t158 t159 t160 t161 _ _ t162 t166 _ ?side1 ?side2 ?side3 ?side4 A24.out).mono ?_); (case side1 => refine (Kd.R_reads' (e := 5) (base := w.heap.size) (ok := fun k_ => (((True ∧ some k_ ≠ (J Ao110 t136.length co110 : Value).ownBlock) ∧ some k_ ≠ (J Ao111 t144.length co111 : Value).ownBlock) ∧ some k_ ≠ (J Ao127 t162.length co127 : Value).ownBlock)) (n := t153.length) (c := co119) ?_).2.2; exact (by (with_reducible repeat (first | apply ra | apply rN | apply rd1)); exact (Kd.R_mono (rf (p := ⟨g165, 5, none⟩) (rf (p := ⟨g165, 4, none⟩) (rf (p := ⟨g165, 3, none⟩) (rf (p := ⟨g165, 2, none⟩) (rf (p := ⟨g165, 1, none⟩) (rf (p := ⟨g165, 0, none⟩) (Kd.R_types O155.out B165.out (by decide)) (fun _ hk => hk.2) (I q t157)) (fun _ hk => hk.2) (I q t158)) (fun _ hk => hk.2) (I q t159)) (fun _ hk => hk.2) (I q t160)) (fun _ hk => hk.2) (I q t161)) (fun _ hk => hk.2) (J Ao127 t162.length co127)) (fun _ h_ => h_.1)))); (case side2 => exact (Kd.R_reads' O155.out).2.1); (case side3 => refine (Kd.R_reads' (e := 5) (base := w.heap.size) (ok := fun k_ => (((True ∧ some k_ ≠ (J Ao110 t136.length co110 : Value).ownBlock) ∧ some k_ ≠ (J Ao111 t144.length co111 : Value).ownBlock) ∧ some k_ ≠ (J Ao119 t153.length co119 : Value).ownBlock)) (n := t162.length) (c := co127) ?_).2.2; exact (by (with_reducible repeat (first | apply ra | apply rN | apply rd1)); exact (Kd.R_mono (rf (p := ⟨g165, 5, none⟩) (rf (p := ⟨g165, 4, none⟩) (rf (p := ⟨g165, 3, none⟩) (rf (p := ⟨g165, 2, none⟩) (rf (p := ⟨g165, 1, none⟩) (rf (p := ⟨g165, 0, none⟩) (Kd.R_types O164.out B165.out (by decide)) (fun _ hk => hk.2) (I q t157)) (fun _ hk => hk.2) (I q t158)) (fun _ hk => hk.2) (I q t159)) (fun _ hk => hk.2) (I q t160)) (fun _ hk => hk.2) (I q t161)) (fun _ hk => hk.2) (J Ao127 t162.length co127)) (fun _ h_ => h_.1)))); (case side4 => exact (Kd.R_reads' O164.out).2.1); rintro e w129 ⟨rfl, hb⟩; refine ⟨_, rfl, ?_⟩; have N0 := am (rb (by (with_reducible repeat (first | apply ra | apply rN | apply rd1)); exact (Kd.R_mono (rf (p := ⟨g165, 5, none⟩) (rf (p := ⟨g165, 4, none⟩) (rf (p := ⟨g165, 3, none⟩) (rf (p := ⟨g165, 2, none⟩) (rf (p := ⟨g165, 1, none⟩) (rf (p := ⟨g165, 0, none⟩) (Kd.R_types O138.out B165.out (by decide)) (fun _ hk => hk.2) (I q t157)) (fun _ hk => hk.2) (I q t158)) (fun _ hk => hk.2) (I q t159)) (fun _ hk => hk.2) (I q t160)) (fun _ hk => hk.2) (I q t161)) (fun _ hk => hk.2) (J Ao127 t162.length co127)) (fun _ h_ => h_.1))) hb); have N1 := am (rb (by (with_reducible repeat (first | apply ra | apply rN | apply rd1)); exact (Kd.R_mono (rf (p := ⟨g165, 5, none⟩) (rf (p := ⟨g165, 4, none⟩) (rf (p := ⟨g165, 3, none⟩) (rf (p := ⟨g165, 2, none⟩) (rf (p := ⟨g165, 1, none⟩) (rf (p := ⟨g165, 0, none⟩) (Kd.R_types O146.out B165.out (by decide)) (fun _ hk => hk.2) (I q t157)) (fun _ hk => hk.2) (I q t158)) (fun _ hk => hk.2) (I q t159)) (fun _ hk => hk.2) (I q t160)) (fun _ hk => hk.2) (I q t161)) (fun _ hk => hk.2) (J Ao127 t162.length co127)) (fun _ h_ => h_.1))) hb); have N2 := am (rb (by (with_reducible repeat (first | apply ra | apply rN | apply rd1)); exact (Kd.R_mono (rf (p := ⟨g165, 5, none⟩) (rf (p := ⟨g165, 4, none⟩) (rf (p := ⟨g165, 3, none⟩) (rf (p := ⟨g165, 2, none⟩) (rf (p := ⟨g165, 1, none⟩) (rf (p := ⟨g165, 0, none⟩) (Kd.R_types O155.out B165.out (by decide)) (fun _ hk => hk.2) (I q t157)) (fun _ hk => hk.2) (I q t158)) (fun _ hk => hk.2) (I q t159)) (fun _ hk => hk.2) (I q t160)) (fun _ hk => hk.2) (I q t161)) (fun _ hk => hk.2) (J Ao127 t162.length co127)) (fun _ h_ => h_.1))) hb); have N3 := am (rb (by (with_reducible repeat (first | apply ra | apply rN | apply rd1)); exact (Kd.R_mono (rf (p := ⟨g165, 5, none⟩) (rf (p := ⟨g165, 4, none⟩) (rf (p := ⟨g165, 3, none⟩) (rf (p := ⟨g165, 2, none⟩) (rf (p := ⟨g165, 1, none⟩) (rf (p := ⟨g165, 0, none⟩) (Kd.R_types O164.out B165.out (by decide)) (fun _ hk => hk.2) (I q t157)) (fun _ hk => hk.2) (I q t158)) (fun _ hk => hk.2) (I q t159)) (fun _ hk => hk.2) (I q t160)) (fun _ hk => hk.2) (I q t161)) (fun _ hk => hk.2) (J Ao127 t162.length co127)) (fun _ h_ => h_.1))) hb); have N4 := am (bb (g := g127) (o := .cells #[I q aa0, I q aa1, I q aa2, I q aa3, I q aa4, J Aa5 la5.length ca5] 24 (0, 0)) (by (with_reducible repeat (first | apply bN | apply bd | apply ba)); refine bq ?_ NB127_165.out _; (with_reducible repeat (first | apply bN | apply bd | apply ba)); refine bq ?_ NB127_165.out _; (with_reducible repeat (first | apply bN | apply bd | apply ba)); refine bq ?_ NB127_165.out _; (with_reducible repeat (first | apply bN | apply bd | apply ba)); refine bq ?_ NB127_165.out _; (with_reducible repeat (first | apply bN | apply bd | apply ba)); refine bq ?_ NB127_165.out _; (with_reducible repeat (first | apply bN | apply bd | apply ba)); refine bq ?_ NB127_165.out _; (with_reducible repeat (first | apply bN | apply bd | apply ba)); exact B127.out) hb); have N5 := am (bb (g := g128) (o := .cells #[I q ab0, I q ab1, I q ab2, I q ab3, I q ab4, J Ab5 lb5.length cb5] 24 (0, 0)) (by (with_reducible repeat (first | apply bN | apply bd | apply ba)); refine bq ?_ NB128_165.out _; (with_reducible repeat (first | apply bN | apply bd | apply ba)); refine bq ?_ NB128_165.out _; (with_reducible repeat (first | apply bN | apply bd | apply ba)); refine bq ?_ NB128_165.out _; (with_reducible repeat (first | apply bN | apply bd | apply ba)); refine bq ?_ NB128_165.out _; (with_reducible repeat (first | apply bN | apply bd | apply ba)); refine bq ?_ NB128_165.out _; (with_reducible repeat (first | apply bN | apply bd | apply ba)); refine bq ?_ NB128_165.out _; (with_reducible repeat (first | apply bN | apply bd | apply ba)); exact B128.out) hb); have N6 := am (bb (g := g156) (o := .cells #[I q t148, I q t149, I q t150, I q t151, I q t152, J Ao119 t153.length co119] 27 (0, 0)) (by (with_reducible repeat (first | apply bN | apply bd | apply ba)); refine bq ?_ NB156_165.out _; (with_reducible repeat (first | apply bN | apply bd | apply ba)); refine bq ?_ NB156_165.out _; (with_reducible repeat (first | apply bN | apply bd | apply ba)); refine bq ?_ NB156_165.out _; (with_reducible repeat (first | apply bN | apply bd | apply ba)); refine bq ?_ NB156_165.out _; (with_reducible repeat (first | apply bN | apply bd | apply ba)); refine bq ?_ NB156_165.out _; (with_reducible repeat (first | apply bN | apply bd | apply ba)); refine bq ?_ NB156_165.out _; (with_reducible repeat (first | apply bN | apply bd | apply ba)); exact B156.out) hb); have N7 := am (bb (g := g165) (o := .cells #[I q t157, I q t158, I q t159, I q t160, I q t161, J Ao127 t162.length co127] 27 (0, 0)) (by (with_reducible repeat (first | apply bN | apply bd | apply ba)); refine blk_put (cs := #[I q t157, I q t158, I q t159, I q t160, I q t161, .slice none 0 0]) ?_ 5 _ rfl; (with_reducible repeat (first | apply bN | apply bd | apply ba)); refine blk_put (cs := #[I q t157, I q t158, I q t159, I q t160, I q 0, .slice none 0 0]) ?_ 4 _ rfl; (with_reducible repeat (first | apply bN | apply bd | apply ba)); refine blk_put (cs := #[I q t157, I q t158, I q t159, I q 0, I q 0, .slice none 0 0]) ?_ 3 _ rfl; (with_reducible repeat (first | apply bN | apply bd | apply ba)); refine blk_put (cs := #[I q t157, I q t158, I q 0, I q 0, I q 0, .slice none 0 0]) ?_ 2 _ rfl; (with_reducible repeat (first | apply bN | apply bd | apply ba)); refine blk_put (cs := #[I q t157, I q 0, I q 0, I q 0, I q 0, .slice none 0 0]) ?_ 1 _ rfl; (with_reducible repeat (first | apply bN | apply bd | apply ba)); refine blk_put (cs := #[I q 0, I q 0, I q 0, I q 0, I q 0, .slice none 0 0]) ?_ 0 _ rfl; (with_reducible repeat (first | apply bN | apply bd | apply ba)); exact B165.out) hb); have N8 := am (bp (by repeat (first | (with_reducible first | exact HB.out | apply pa | apply pN | apply p1 | refine bs ?_ E127.out | refine bs ?_ E128.out | refine bs ?_ E156.out | refine bs ?_ E165.out) | exact HB.out)) hb); clear O138 O146 O155 O164 B127 B128 B156 B165 HB; have O138 := N0; have O146 := N1; have O155 := N2; have O164 := N3; have B127 := N4; have B128 := N5; have B156 := N6; have B165 := N7; have HB := N8; clear N0 N1 N2 N3 N4 N5 N6 N7 N8; (try clear hb); (try clear hb2); (try clear hk); (try clear hi)))
            have N0 := am (rd1 O138.out)
            have N1 := am (rd1 O146.out)
            have N2 := am (rd1 O155.out)
            have N3 := am (rd1 O164.out)
            have N4 := am (bd B127.out)
            have N5 := am (bd B128.out)
            have N6 := am (bd B156.out)
            have N7 := am (bd B165.out)
            have N8 := am (p1 HB.out)
            clear O138
            clear O146
            clear O155
            clear O164
            clear B127
            clear B128
            clear B156
            clear B165
            clear HB
            have O138 := N0
            have O146 := N1
            have O155 := N2
            have O164 := N3
            have B127 := N4
            have B128 := N5
            have B156 := N6
            have B165 := N7
            have HB := N8
            clear N0 N1 N2 N3 N4 N5 N6 N7 N8
            refine start_ (n := 5) (S := fun w' => w'.cell? ⟨g156, 0, none⟩ = some (I q t148) ∧ w'.cell? ⟨g156, 1, none⟩ = some (I q t149) ∧ w'.cell? ⟨g156, 2, none⟩ = some (I q t150) ∧ w'.cell? ⟨g156, 3, none⟩ = some (I q t151) ∧ w'.cell? ⟨g156, 4, none⟩ = some (I q t152) ∧ w'.cell? ⟨g156, 5, none⟩ = some (J Ao119 t153.length co119) ∧ w'.cell? ⟨g127, 0, none⟩ = some (I q aa0) ∧ w'.cell? ⟨g127, 1, none⟩ = some (I q aa1) ∧ w'.cell? ⟨g127, 2, none⟩ = some (I q aa2) ∧ w'.cell? ⟨g127, 3, none⟩ = some (I q aa3) ∧ w'.cell? ⟨g127, 4, none⟩ = some (I q aa4) ∧ w'.cell? ⟨g127, 5, none⟩ = some (J Aa5 la5.length ca5)) (ds := []) #[false, false, false, false, false] (by kernel_rfl) rfl rfl ⟨(bc B156.out 0).trans rfl, (bc B156.out 1).trans rfl, (bc B156.out 2).trans rfl, (bc B156.out 3).trans rfl, (bc B156.out 4).trans rfl, (bc B156.out 5).trans rfl, (bc B127.out 0).trans rfl, (bc B127.out 1).trans rfl, (bc B127.out 2).trans rfl, (bc B127.out 3).trans rfl, (bc B127.out 4).trans rfl, (bc B127.out 5).trans rfl⟩ (fun hHeld => ?_)
            generalize w129.drew = w130 at O138 O146 O155 O164 B127 B128 B156 B165 HB hHeld ⊢
            refine take_ (i := 0) (N := some 35) (v := ?_) (a' := ?_) #[true, false, false, false, false] rfl rfl (by kernel_rfl) (fun _ _ _ h => h) (Or.inl ⟨by rfl, ?_⟩) hHeld ?_ ?_
            rotate_left
            · rintro w' ⟨s0, s1, s2, s3, s4, s5, s6, s7, s8, s9, s10, s11⟩
              go_simp
              with_reducible rfl
            rotate_left
            · simp only [Act.put, List.setIfInBounds_toArray, List.set_cons_zero, List.set_cons_succ, i64_w, i32_w]
              rfl
            refine take_ (i := 1) (N := some 36) (v := ?_) (a' := ?_) #[true, true, false, false, false] rfl rfl (by kernel_rfl) (fun _ _ _ h => h) (Or.inl ⟨by rfl, ?_⟩) hHeld ?_ ?_
            rotate_left
            · rintro w' ⟨s0, s1, s2, s3, s4, s5, s6, s7, s8, s9, s10, s11⟩
              go_simp
              with_reducible rfl
            rotate_left
            · simp only [Act.put, List.setIfInBounds_toArray, List.set_cons_zero, List.set_cons_succ, i64_w, i32_w]
              rfl
            refine one_ (i := 2) (N := some 37) #[true, true, true, false, false] rfl rfl (by kernel_rfl) (by decide) (fun K hK => ?_)
            refine goes_ Try.func17 (by kernel_rfl) rfl #[.agg #[I q aa0, I q aa1, I q aa2, I q aa3, I q aa4, J Aa5 la5.length ca5]] (by rfl) rfl rfl (by (try simp only [List.map_toArray, List.map_cons, List.map_nil]); first | done | rfl | (simp only [List.length_drop, List.length_take]; rfl)) ?_
            with_reducible refine (laws_toPacket.calls k aa0 aa1 aa2 aa3 aa4 _ _ la5 t167 t168 t169 t170 t171 t172 _ ?side1 ?side2 A56.out).mono ?_
            (case side1 => repeat (first | exact (Kd.C_below HR0_5.out HB.out) | (with_reducible refine ca ?_ _) | (with_reducible refine cN ?_ _) | (with_reducible refine cd1 ?_)))
            (case side2 => exact HC0_5.out)
            rintro e w131 ⟨v173, rfl, ho0, hb⟩
            refine ⟨_, rfl, ?_⟩
            have N0 := am (re (by (with_reducible repeat (first | apply ra | apply rN | apply rd1)); exact O138.out) (Kd.R_base ho0) hb)
            have N1 := am (re (by (with_reducible repeat (first | apply ra | apply rN | apply rd1)); exact O146.out) (Kd.R_base ho0) hb)
            have N2 := am (re (by (with_reducible repeat (first | apply ra | apply rN | apply rd1)); exact O155.out) (Kd.R_base ho0) hb)
            have N3 := am (re (by (with_reducible repeat (first | apply ra | apply rN | apply rd1)); exact O164.out) (Kd.R_base ho0) hb)
            have N4 := am (rw1 (rn (rn (rn (rn ho0 (rl (by (with_reducible repeat (first | apply ra | apply rN | apply rd1)); exact O138.out))) (rl (by (with_reducible repeat (first | apply ra | apply rN | apply rd1)); exact O146.out))) (rl (by (with_reducible repeat (first | apply ra | apply rN | apply rd1)); exact O155.out))) (rl (by (with_reducible repeat (first | apply ra | apply rN | apply rd1)); exact O164.out))) (bz (by repeat (first | (with_reducible first | exact HB.out | apply pa | apply pN | apply p1 | refine bs ?_ E127.out | refine bs ?_ E128.out | refine bs ?_ E156.out | refine bs ?_ E165.out) | exact HB.out))))
            have N5 := am (bb (g := g127) (o := .cells #[I q aa0, I q aa1, I q aa2, I q aa3, I q aa4, J Aa5 la5.length ca5] 24 (0, 0)) (by (with_reducible repeat (first | apply bN | apply bd | apply ba)); exact B127.out) hb)
            have N6 := am (bb (g := g128) (o := .cells #[I q ab0, I q ab1, I q ab2, I q ab3, I q ab4, J Ab5 lb5.length cb5] 24 (0, 0)) (by (with_reducible repeat (first | apply bN | apply bd | apply ba)); exact B128.out) hb)
            have N7 := am (bb (g := g156) (o := .cells #[I q t148, I q t149, I q t150, I q t151, I q t152, J Ao119 t153.length co119] 27 (0, 0)) (by (with_reducible repeat (first | apply bN | apply bd | apply ba)); exact B156.out) hb)
            have N8 := am (bb (g := g165) (o := .cells #[I q t157, I q t158, I q t159, I q t160, I q t161, J Ao127 t162.length co127] 27 (0, 0)) (by (with_reducible repeat (first | apply bN | apply bd | apply ba)); exact B165.out) hb)
            have N9 := am (bp (by repeat (first | (with_reducible first | exact HB.out | apply pa | apply pN | apply p1 | refine bs ?_ E127.out | refine bs ?_ E128.out | refine bs ?_ E156.out | refine bs ?_ E165.out) | exact HB.out)) hb)
            clear O138
            clear O146
            clear O155
            clear O164
            clear B127
            clear B128
            clear B156
            clear B165
            clear HB
            have O138 := N0
            have O146 := N1
            have O155 := N2
            have O164 := N3
            have O174 := N4
            have B127 := N5
            have B128 := N6
            have B156 := N7
            have B165 := N8
            have HB := N9
            clear N0 N1 N2 N3 N4 N5 N6 N7 N8 N9
            (try clear hb)
            (try clear hb2)
            (try clear hk)
            (try clear hi)
            (try clear ho0)
            obtain ⟨Ao132, co132, eo132⟩ := Kd.R_slice O174.out
            (first | subst eo132 | (injection eo132 with f1_ f2_ f3_; have f4_ := f1_.symm; have f5_ := f3_.symm; clear f1_ f2_ f3_; subst f4_; subst f5_))
            refine hK.out _ _ ⟨(bc B156.out 0).trans rfl, (bc B156.out 1).trans rfl, (bc B156.out 2).trans rfl, (bc B156.out 3).trans rfl, (bc B156.out 4).trans rfl, (bc B156.out 5).trans rfl, (bc B127.out 0).trans rfl, (bc B127.out 1).trans rfl, (bc B127.out 2).trans rfl, (bc B127.out 3).trans rfl, (bc B127.out 4).trans rfl, (bc B127.out 5).trans rfl⟩ (fun hHeld => ?_)
            clear hK K
            refine norm_ (a' := ?_) ?_ ?_
            rotate_left
            · show Act.put _ (some 37) _ = _
              simp only [Act.put, List.setIfInBounds_toArray, List.set_cons_zero, List.set_cons_succ, i64_w, i32_w]
              rfl
            refine one_ (i := 3) (N := some 38) #[true, true, true, true, false] rfl rfl (by kernel_rfl) (by decide) (fun K hK => ?_)
            refine goes_ Try.func19 (by kernel_rfl) rfl #[.agg #[I q t148, I q t149, I q t150, I q t151, I q t152, J Ao119 t153.length co119], .agg #[I q t167, I q t168, I q t169, I q t170, I q t171, J Ao132 t172.length co132]] (by rfl) rfl rfl (by (try simp only [List.map_toArray, List.map_cons, List.map_nil]); first | done | rfl | (simp only [List.length_drop, List.length_take]; rfl)) ?_
            with_reducible refine (laws_eqPacket.calls k t148 t149 t150 t151 t152 _ _ t153 t167 t168 t169 t170 t171 _ _ t172 true _ ?side1 ?side2 ?side3 ?side4 A57.out).mono ?_
            (case side1 => repeat (first | exact (Kd.R_reads' O155.out).2.2 | (with_reducible refine ca ?_ _) | (with_reducible refine cN ?_ _) | (with_reducible refine cd1 ?_)))
            (case side2 => exact (Kd.R_reads' O155.out).2.1)
            (case side3 => repeat (first | exact (Kd.R_reads' O174.out).2.2 | (with_reducible refine ca ?_ _) | (with_reducible refine cN ?_ _) | (with_reducible refine cd1 ?_)))
            (case side4 => exact (Kd.R_reads' O174.out).2.1)
            rintro e w133 ⟨rfl, hb⟩
            refine ⟨_, rfl, ?_⟩
            have N0 := am (rb (by (with_reducible repeat (first | apply ra | apply rN | apply rd1)); exact O138.out) hb)
            have N1 := am (rb (by (with_reducible repeat (first | apply ra | apply rN | apply rd1)); exact O146.out) hb)
            have N2 := am (rb (by (with_reducible repeat (first | apply ra | apply rN | apply rd1)); exact O155.out) hb)
            have N3 := am (rb (by (with_reducible repeat (first | apply ra | apply rN | apply rd1)); exact O164.out) hb)
            have N4 := am (rb (by (with_reducible repeat (first | apply ra | apply rN | apply rd1)); exact O174.out) hb)
            have N5 := am (bb (g := g127) (o := .cells #[I q aa0, I q aa1, I q aa2, I q aa3, I q aa4, J Aa5 la5.length ca5] 24 (0, 0)) (by (with_reducible repeat (first | apply bN | apply bd | apply ba)); exact B127.out) hb)
            have N6 := am (bb (g := g128) (o := .cells #[I q ab0, I q ab1, I q ab2, I q ab3, I q ab4, J Ab5 lb5.length cb5] 24 (0, 0)) (by (with_reducible repeat (first | apply bN | apply bd | apply ba)); exact B128.out) hb)
            have N7 := am (bb (g := g156) (o := .cells #[I q t148, I q t149, I q t150, I q t151, I q t152, J Ao119 t153.length co119] 27 (0, 0)) (by (with_reducible repeat (first | apply bN | apply bd | apply ba)); exact B156.out) hb)
            have N8 := am (bb (g := g165) (o := .cells #[I q t157, I q t158, I q t159, I q t160, I q t161, J Ao127 t162.length co127] 27 (0, 0)) (by (with_reducible repeat (first | apply bN | apply bd | apply ba)); exact B165.out) hb)
            have N9 := am (bp (by repeat (first | (with_reducible first | exact HB.out | apply pa | apply pN | apply p1 | refine bs ?_ E127.out | refine bs ?_ E128.out | refine bs ?_ E156.out | refine bs ?_ E165.out) | exact HB.out)) hb)
            clear O138
            clear O146
            clear O155
            clear O164
            clear O174
            clear B127
            clear B128
            clear B156
            clear B165
            clear HB
            have O138 := N0
            have O146 := N1
            have O155 := N2
            have O164 := N3
            have O174 := N4
            have B127 := N5
            have B128 := N6
            have B156 := N7
            have B165 := N8
            have HB := N9
            clear N0 N1 N2 N3 N4 N5 N6 N7 N8 N9
            (try clear hb)
            (try clear hb2)
            (try clear hk)
            (try clear hi)
            refine hK.out _ _ ⟨(bc B156.out 0).trans rfl, (bc B156.out 1).trans rfl, (bc B156.out 2).trans rfl, (bc B156.out 3).trans rfl, (bc B156.out 4).trans rfl, (bc B156.out 5).trans rfl, (bc B127.out 0).trans rfl, (bc B127.out 1).trans rfl, (bc B127.out 2).trans rfl, (bc B127.out 3).trans rfl, (bc B127.out 4).trans rfl, (bc B127.out 5).trans rfl⟩ (fun hHeld => ?_)
            clear hK K
            refine norm_ (a' := ?_) ?_ ?_
            rotate_left
            · show Act.put _ (some 38) _ = _
              simp only [Act.put, List.setIfInBounds_toArray, List.set_cons_zero, List.set_cons_succ, i64_w, i32_w]
              rfl
            refine pure_ (i := 4) (N := some 39) (v := ?_) (a' := ?_) #[true, true, true, true, true] rfl rfl (by kernel_rfl) (fun _ _ _ h => h) (Or.inl ⟨by rfl, ?_⟩) ?_ ?_
            rotate_left
            · intro w'
              first | (go_simp; with_reducible rfl) | (go_simp; (try unfold Instr.field); go_simp; (try simp only [asAgg]); go_simp; with_reducible rfl)
            rotate_left
            · simp only [Act.put, List.setIfInBounds_toArray, List.set_cons_zero, List.set_cons_succ, i64_w, i32_w]
              rfl
            refine done_ (by kernel_rfl) ?_
            try go_wp2
            have N0 := am (rd1 O138.out)
            have N1 := am (rd1 O146.out)
            have N2 := am (rd1 O155.out)
            have N3 := am (rd1 O164.out)
            have N4 := am (rd1 O174.out)
            have N5 := am (bd B127.out)
            have N6 := am (bd B128.out)
            have N7 := am (bd B156.out)
            have N8 := am (bd B165.out)
            have N9 := am (p1 HB.out)
            clear O138
            clear O146
            clear O155
            clear O164
            clear O174
            clear B127
            clear B128
            clear B156
            clear B165
            clear HB
            have O138 := N0
            have O146 := N1
            have O155 := N2
            have O164 := N3
            have O174 := N4
            have B127 := N5
            have B128 := N6
            have B156 := N7
            have B165 := N8
            have HB := N9
            clear N0 N1 N2 N3 N4 N5 N6 N7 N8 N9
            refine start_ (n := 5) (S := fun w' => w'.cell? ⟨g165, 0, none⟩ = some (I q t157) ∧ w'.cell? ⟨g165, 1, none⟩ = some (I q t158) ∧ w'.cell? ⟨g165, 2, none⟩ = some (I q t159) ∧ w'.cell? ⟨g165, 3, none⟩ = some (I q t160) ∧ w'.cell? ⟨g165, 4, none⟩ = some (I q t161) ∧ w'.cell? ⟨g165, 5, none⟩ = some (J Ao127 t162.length co127) ∧ w'.cell? ⟨g128, 0, none⟩ = some (I q ab0) ∧ w'.cell? ⟨g128, 1, none⟩ = some (I q ab1) ∧ w'.cell? ⟨g128, 2, none⟩ = some (I q ab2) ∧ w'.cell? ⟨g128, 3, none⟩ = some (I q ab3) ∧ w'.cell? ⟨g128, 4, none⟩ = some (I q ab4) ∧ w'.cell? ⟨g128, 5, none⟩ = some (J Ab5 lb5.length cb5)) (ds := []) #[false, false, false, false, false] (by kernel_rfl) rfl rfl ⟨(bc B165.out 0).trans rfl, (bc B165.out 1).trans rfl, (bc B165.out 2).trans rfl, (bc B165.out 3).trans rfl, (bc B165.out 4).trans rfl, (bc B165.out 5).trans rfl, (bc B128.out 0).trans rfl, (bc B128.out 1).trans rfl, (bc B128.out 2).trans rfl, (bc B128.out 3).trans rfl, (bc B128.out 4).trans rfl, (bc B128.out 5).trans rfl⟩ (fun hHeld => ?_)
            generalize w133.drew = w134 at O138 O146 O155 O164 O174 B127 B128 B156 B165 HB hHeld ⊢
            refine take_ (i := 0) (N := some 40) (v := ?_) (a' := ?_) #[true, false, false, false, false] rfl rfl (by kernel_rfl) (fun _ _ _ h => h) (Or.inl ⟨by rfl, ?_⟩) hHeld ?_ ?_
            rotate_left
            · rintro w' ⟨s0, s1, s2, s3, s4, s5, s6, s7, s8, s9, s10, s11⟩
              go_simp
              with_reducible rfl
            rotate_left
            · simp only [Act.put, List.setIfInBounds_toArray, List.set_cons_zero, List.set_cons_succ, i64_w, i32_w]
              rfl
            refine take_ (i := 1) (N := some 41) (v := ?_) (a' := ?_) #[true, true, false, false, false] rfl rfl (by kernel_rfl) (fun _ _ _ h => h) (Or.inl ⟨by rfl, ?_⟩) hHeld ?_ ?_
            rotate_left
            · rintro w' ⟨s0, s1, s2, s3, s4, s5, s6, s7, s8, s9, s10, s11⟩
              go_simp
              with_reducible rfl
            rotate_left
            · simp only [Act.put, List.setIfInBounds_toArray, List.set_cons_zero, List.set_cons_succ, i64_w, i32_w]
              rfl
            refine one_ (i := 2) (N := some 42) #[true, true, true, false, false] rfl rfl (by kernel_rfl) (by decide) (fun K hK => ?_)
            refine goes_ Try.func17 (by kernel_rfl) rfl #[.agg #[I q ab0, I q ab1, I q ab2, I q ab3, I q ab4, J Ab5 lb5.length cb5]] (by rfl) rfl rfl (by (try simp only [List.map_toArray, List.map_cons, List.map_nil]); first | done | rfl | (simp only [List.length_drop, List.length_take]; rfl)) ?_
            with_reducible refine (laws_toPacket.calls k ab0 ab1 ab2 ab3 ab4 _ _ lb5 t176 t177 t178 t179 t180 t181 _ ?side1 ?side2 A59.out).mono ?_
            (case side1 => repeat (first | exact (Kd.C_below HR1_5.out HB.out) | (with_reducible refine ca ?_ _) | (with_reducible refine cN ?_ _) | (with_reducible refine cd1 ?_)))
            (case side2 => exact HC1_5.out)
            rintro e w135 ⟨v182, rfl, ho0, hb⟩
            refine ⟨_, rfl, ?_⟩
            have N0 := am (re (by (with_reducible repeat (first | apply ra | apply rN | apply rd1)); exact O138.out) (Kd.R_base ho0) hb)
            have N1 := am (re (by (with_reducible repeat (first | apply ra | apply rN | apply rd1)); exact O146.out) (Kd.R_base ho0) hb)
            have N2 := am (re (by (with_reducible repeat (first | apply ra | apply rN | apply rd1)); exact O155.out) (Kd.R_base ho0) hb)
            have N3 := am (re (by (with_reducible repeat (first | apply ra | apply rN | apply rd1)); exact O164.out) (Kd.R_base ho0) hb)
            have N4 := am (re (by (with_reducible repeat (first | apply ra | apply rN | apply rd1)); exact O174.out) (Kd.R_base ho0) hb)
            have N5 := am (rw1 (rn (rn (rn (rn (rn ho0 (rl (by (with_reducible repeat (first | apply ra | apply rN | apply rd1)); exact O138.out))) (rl (by (with_reducible repeat (first | apply ra | apply rN | apply rd1)); exact O146.out))) (rl (by (with_reducible repeat (first | apply ra | apply rN | apply rd1)); exact O155.out))) (rl (by (with_reducible repeat (first | apply ra | apply rN | apply rd1)); exact O164.out))) (rl (by (with_reducible repeat (first | apply ra | apply rN | apply rd1)); exact O174.out))) (bz (by repeat (first | (with_reducible first | exact HB.out | apply pa | apply pN | apply p1 | refine bs ?_ E127.out | refine bs ?_ E128.out | refine bs ?_ E156.out | refine bs ?_ E165.out) | exact HB.out))))
            have N6 := am (bb (g := g127) (o := .cells #[I q aa0, I q aa1, I q aa2, I q aa3, I q aa4, J Aa5 la5.length ca5] 24 (0, 0)) (by (with_reducible repeat (first | apply bN | apply bd | apply ba)); exact B127.out) hb)
            have N7 := am (bb (g := g128) (o := .cells #[I q ab0, I q ab1, I q ab2, I q ab3, I q ab4, J Ab5 lb5.length cb5] 24 (0, 0)) (by (with_reducible repeat (first | apply bN | apply bd | apply ba)); exact B128.out) hb)
            have N8 := am (bb (g := g156) (o := .cells #[I q t148, I q t149, I q t150, I q t151, I q t152, J Ao119 t153.length co119] 27 (0, 0)) (by (with_reducible repeat (first | apply bN | apply bd | apply ba)); exact B156.out) hb)
            have N9 := am (bb (g := g165) (o := .cells #[I q t157, I q t158, I q t159, I q t160, I q t161, J Ao127 t162.length co127] 27 (0, 0)) (by (with_reducible repeat (first | apply bN | apply bd | apply ba)); exact B165.out) hb)
            have N10 := am (bp (by repeat (first | (with_reducible first | exact HB.out | apply pa | apply pN | apply p1 | refine bs ?_ E127.out | refine bs ?_ E128.out | refine bs ?_ E156.out | refine bs ?_ E165.out) | exact HB.out)) hb)
            clear O138
            clear O146
            clear O155
            clear O164
            clear O174
            clear B127
            clear B128
            clear B156
            clear B165
            clear HB
            have O138 := N0
            have O146 := N1
            have O155 := N2
            have O164 := N3
            have O174 := N4
            have O183 := N5
            have B127 := N6
            have B128 := N7
            have B156 := N8
            have B165 := N9
            have HB := N10
            clear N0 N1 N2 N3 N4 N5 N6 N7 N8 N9 N10
            (try clear hb)
            (try clear hb2)
            (try clear hk)
            (try clear hi)
            (try clear ho0)
            obtain ⟨Ao136, co136, eo136⟩ := Kd.R_slice O183.out
            (first | subst eo136 | (injection eo136 with f1_ f2_ f3_; have f4_ := f1_.symm; have f5_ := f3_.symm; clear f1_ f2_ f3_; subst f4_; subst f5_))
            refine hK.out _ _ ⟨(bc B165.out 0).trans rfl, (bc B165.out 1).trans rfl, (bc B165.out 2).trans rfl, (bc B165.out 3).trans rfl, (bc B165.out 4).trans rfl, (bc B165.out 5).trans rfl, (bc B128.out 0).trans rfl, (bc B128.out 1).trans rfl, (bc B128.out 2).trans rfl, (bc B128.out 3).trans rfl, (bc B128.out 4).trans rfl, (bc B128.out 5).trans rfl⟩ (fun hHeld => ?_)
            clear hK K
            refine norm_ (a' := ?_) ?_ ?_
            rotate_left
            · show Act.put _ (some 42) _ = _
              simp only [Act.put, List.setIfInBounds_toArray, List.set_cons_zero, List.set_cons_succ, i64_w, i32_w]
              rfl
            refine one_ (i := 3) (N := some 43) #[true, true, true, true, false] rfl rfl (by kernel_rfl) (by decide) (fun K hK => ?_)
            refine goes_ Try.func19 (by kernel_rfl) rfl #[.agg #[I q t157, I q t158, I q t159, I q t160, I q t161, J Ao127 t162.length co127], .agg #[I q t176, I q t177, I q t178, I q t179, I q t180, J Ao136 t181.length co136]] (by rfl) rfl rfl (by (try simp only [List.map_toArray, List.map_cons, List.map_nil]); first | done | rfl | (simp only [List.length_drop, List.length_take]; rfl)) ?_
            with_reducible refine (laws_eqPacket.calls k t157 t158 t159 t160 t161 _ _ t162 t176 t177 t178 t179 t180 _ _ t181 false _ ?side1 ?side2 ?side3 ?side4 A60.out).mono ?_
            (case side1 => repeat (first | exact (Kd.R_reads' O164.out).2.2 | (with_reducible refine ca ?_ _) | (with_reducible refine cN ?_ _) | (with_reducible refine cd1 ?_)))
            (case side2 => exact (Kd.R_reads' O164.out).2.1)
            (case side3 => repeat (first | exact (Kd.R_reads' O183.out).2.2 | (with_reducible refine ca ?_ _) | (with_reducible refine cN ?_ _) | (with_reducible refine cd1 ?_)))
            (case side4 => exact (Kd.R_reads' O183.out).2.1)
            rintro e w137 ⟨rfl, hb⟩
            refine ⟨_, rfl, ?_⟩
            have N0 := am (rb (by (with_reducible repeat (first | apply ra | apply rN | apply rd1)); exact O138.out) hb)
            have N1 := am (rb (by (with_reducible repeat (first | apply ra | apply rN | apply rd1)); exact O146.out) hb)
            have N2 := am (rb (by (with_reducible repeat (first | apply ra | apply rN | apply rd1)); exact O155.out) hb)
            have N3 := am (rb (by (with_reducible repeat (first | apply ra | apply rN | apply rd1)); exact O164.out) hb)
            have N4 := am (rb (by (with_reducible repeat (first | apply ra | apply rN | apply rd1)); exact O174.out) hb)
            have N5 := am (rb (by (with_reducible repeat (first | apply ra | apply rN | apply rd1)); exact O183.out) hb)
            have N6 := am (bb (g := g127) (o := .cells #[I q aa0, I q aa1, I q aa2, I q aa3, I q aa4, J Aa5 la5.length ca5] 24 (0, 0)) (by (with_reducible repeat (first | apply bN | apply bd | apply ba)); exact B127.out) hb)
            have N7 := am (bb (g := g128) (o := .cells #[I q ab0, I q ab1, I q ab2, I q ab3, I q ab4, J Ab5 lb5.length cb5] 24 (0, 0)) (by (with_reducible repeat (first | apply bN | apply bd | apply ba)); exact B128.out) hb)
            have N8 := am (bb (g := g156) (o := .cells #[I q t148, I q t149, I q t150, I q t151, I q t152, J Ao119 t153.length co119] 27 (0, 0)) (by (with_reducible repeat (first | apply bN | apply bd | apply ba)); exact B156.out) hb)
            have N9 := am (bb (g := g165) (o := .cells #[I q t157, I q t158, I q t159, I q t160, I q t161, J Ao127 t162.length co127] 27 (0, 0)) (by (with_reducible repeat (first | apply bN | apply bd | apply ba)); exact B165.out) hb)
            have N10 := am (bp (by repeat (first | (with_reducible first | exact HB.out | apply pa | apply pN | apply p1 | refine bs ?_ E127.out | refine bs ?_ E128.out | refine bs ?_ E156.out | refine bs ?_ E165.out) | exact HB.out)) hb)
            clear O138
            clear O146
            clear O155
            clear O164
            clear O174
            clear O183
            clear B127
            clear B128
            clear B156
            clear B165
            clear HB
            have O138 := N0
            have O146 := N1
            have O155 := N2
            have O164 := N3
            have O174 := N4
            have O183 := N5
            have B127 := N6
            have B128 := N7
            have B156 := N8
            have B165 := N9
            have HB := N10
            clear N0 N1 N2 N3 N4 N5 N6 N7 N8 N9 N10
            (try clear hb)
            (try clear hb2)
            (try clear hk)
            (try clear hi)
            refine hK.out _ _ ⟨(bc B165.out 0).trans rfl, (bc B165.out 1).trans rfl, (bc B165.out 2).trans rfl, (bc B165.out 3).trans rfl, (bc B165.out 4).trans rfl, (bc B165.out 5).trans rfl, (bc B128.out 0).trans rfl, (bc B128.out 1).trans rfl, (bc B128.out 2).trans rfl, (bc B128.out 3).trans rfl, (bc B128.out 4).trans rfl, (bc B128.out 5).trans rfl⟩ (fun hHeld => ?_)
            clear hK K
            refine norm_ (a' := ?_) ?_ ?_
            rotate_left
            · show Act.put _ (some 43) _ = _
              simp only [Act.put, List.setIfInBounds_toArray, List.set_cons_zero, List.set_cons_succ, i64_w, i32_w]
              rfl
            refine pure_ (i := 4) (N := some 44) (v := ?_) (a' := ?_) #[true, true, true, true, true] rfl rfl (by kernel_rfl) (fun _ _ _ h => h) (Or.inl ⟨by rfl, ?_⟩) ?_ ?_
            rotate_left
            · intro w'
              first | (go_simp; with_reducible rfl) | (go_simp; (try unfold Instr.field); go_simp; (try simp only [asAgg]); go_simp; with_reducible rfl)
            rotate_left
            · simp only [Act.put, List.setIfInBounds_toArray, List.set_cons_zero, List.set_cons_succ, i64_w, i32_w]
              rfl
            refine done_ (by kernel_rfl) ?_
            try go_wp2
            go_ret
            exact ⟨by first | rfl | (simp [errW_none, errW_some] <;> rfl) | (simp [*, errW_none, errW_some] <;> rfl), by repeat (first | (with_reducible first | exact HB.out | apply pa | apply pN | apply p1 | refine bs ?_ E127.out | refine bs ?_ E128.out | refine bs ?_ E156.out | refine bs ?_ E165.out) | exact HB.out)⟩
        · replace c58 := Bool.eq_false_iff.mpr c58
          subst c58
          have H1 : (some false) = some r := by rw [if_neg (show ¬ (false = true) by decide)] at H; exact H
          clear H
          have H := H1
          clear H1
          obtain rfl := Option.some.inj H
          go_enter Try.func3, Try.ntmps3
          try go_wp2_with (first | ((with_reducible refine gate_dst (N := 2) rfl ?_); refine box_event ?hg (N := 2) ?hd (cs := #[I q aa0, I q aa1, I q aa2, I q aa3, I q aa4, J Aa5 la5.length ca5]) (t := 24) ?hr ?_; (case hd => rfl); (case hg => rfl); (case hr => first | (go_simp; done) | (go_simp; rfl)); intro g127 hg w138 hbox hb; have N0 := am (bp (by repeat (first | (with_reducible first | exact HB.out | apply pa | apply pN | apply p1) | exact HB.out)) hb); have N1 := am (hbox); have N2 := am ((by rw [hg]; exact (bz (by repeat (first | (with_reducible first | exact HB.out | apply pa | apply pN | apply p1) | exact HB.out))) : w.heap.size ≤ g127)); have N3 := am ((by rw [hg]; exact (bz (by repeat (first | (with_reducible first | exact HB.out | apply pa | apply pN | apply p1) | exact HB.out))) : w.heap.size ≤ g127)); clear HB; have HB := N0; have B127 := N1; have GW127 := N2; have E127 := N3; clear N0 N1 N2 N3 hb hbox hg) | ((with_reducible refine gate_dst (N := 3) rfl ?_); refine box_event ?hg (N := 3) ?hd (cs := #[I q ab0, I q ab1, I q ab2, I q ab3, I q ab4, J Ab5 lb5.length cb5]) (t := 24) ?hr ?_; (case hd => rfl); (case hg => rfl); (case hr => first | (go_simp; done) | (go_simp; rfl)); intro g128 hg w139 hbox hb; have N0 := am (bb (g := g127) (o := .cells #[I q aa0, I q aa1, I q aa2, I q aa3, I q aa4, J Aa5 la5.length ca5] 24 (0, 0)) (by (with_reducible repeat (first | apply bN | apply bd | apply ba)); exact B127.out) hb); have N1 := am (bp (by repeat (first | (with_reducible first | exact HB.out | apply pa | apply pN | apply p1 | refine bs ?_ E127.out) | exact HB.out)) hb); have N2 := am (hbox); have N3 := am ((by rw [hg]; exact (bz (by repeat (first | (with_reducible first | exact HB.out | apply pa | apply pN | apply p1 | refine bs ?_ E127.out) | exact HB.out))) : w.heap.size ≤ g128)); have N4 := am ((by rw [hg]; exact (bz (by repeat (first | (with_reducible first | exact HB.out | apply pa | apply pN | apply p1 | refine bs ?_ E127.out) | exact HB.out))) : w.heap.size ≤ g128)); have N5 := am ((by rw [hg]; exact Nat.ne_of_lt (bl (g := g127) (o := .cells #[I q aa0, I q aa1, I q aa2, I q aa3, I q aa4, J Aa5 la5.length ca5] 24 (0, 0)) (by (with_reducible repeat (first | apply bN | apply bd | apply ba)); exact B127.out)) : g127 ≠ g128)); have N6 := am ((by rw [hg]; exact Nat.ne_of_gt (bl (g := g127) (o := .cells #[I q aa0, I q aa1, I q aa2, I q aa3, I q aa4, J Aa5 la5.length ca5] 24 (0, 0)) (by (with_reducible repeat (first | apply bN | apply bd | apply ba)); exact B127.out)) : g128 ≠ g127)); clear B127 HB; have B127 := N0; have HB := N1; have B128 := N2; have GW128 := N3; have E128 := N4; have NB127_128 := N5; have NB128_127 := N6; clear N0 N1 N2 N3 N4 N5 N6 hb hbox hg; have hnb140 := NB127_128.out; have hnc140 := NB128_127.out; have hcz141_0 : w139.cell? ⟨g127, 0, none⟩ = some (I q aa0) := (bc B127.out 0).trans rfl; have hcz141_1 : w139.cell? ⟨g127, 1, none⟩ = some (I q aa1) := (bc B127.out 1).trans rfl; have hcz141_2 : w139.cell? ⟨g127, 2, none⟩ = some (I q aa2) := (bc B127.out 2).trans rfl; have hcz141_3 : w139.cell? ⟨g127, 3, none⟩ = some (I q aa3) := (bc B127.out 3).trans rfl; have hcz141_4 : w139.cell? ⟨g127, 4, none⟩ = some (I q aa4) := (bc B127.out 4).trans rfl; have hcz141_5 : w139.cell? ⟨g127, 5, none⟩ = some (J Aa5 la5.length ca5) := (bc B127.out 5).trans rfl; have hfz141_0 := bf B127.out 0; have hfz141_1 := bf B127.out 1; have hfz141_2 := bf B127.out 2; have hfz141_3 := bf B127.out 3; have hfz141_4 := bf B127.out 4; have hfz141_5 := bf B127.out 5) | ((with_reducible refine gate_callee (f := 15) rfl ?_); refine goesL_ (some 12) rfl rfl Try.func15 (by kernel_rfl) rfl #[.agg #[I q aa0, I q aa1, I q aa2, I q aa3, I q aa4, J Aa5 la5.length ca5], I q 1048576] rfl (by (try simp only [List.map_toArray, List.map_cons, List.map_nil]); first | done | rfl | (simp only [List.length_drop, List.length_take]; rfl)) ?_; (with_reducible refine (laws_szPacket.calls aa0 aa1 aa2 aa3 aa4 _ _ la5 1048576 t129 _ ?side1 ?side2 A3.out).mono ?_); (case side1 => repeat (first | exact (Kd.C_below HR0_5.out HB.out) | (with_reducible refine ca ?_ _) | (with_reducible refine cN ?_ _) | (with_reducible refine cd1 ?_))); (case side2 => exact HC0_5.out); rintro e w142 ⟨rfl, hb⟩; refine ⟨_, rfl, ?_⟩; have N0 := am (bb (g := g127) (o := .cells #[I q aa0, I q aa1, I q aa2, I q aa3, I q aa4, J Aa5 la5.length ca5] 24 (0, 0)) (by (with_reducible repeat (first | apply bN | apply bd | apply ba)); exact B127.out) hb); have N1 := am (bb (g := g128) (o := .cells #[I q ab0, I q ab1, I q ab2, I q ab3, I q ab4, J Ab5 lb5.length cb5] 24 (0, 0)) (by (with_reducible repeat (first | apply bN | apply bd | apply ba)); exact B128.out) hb); have N2 := am (bp (by repeat (first | (with_reducible first | exact HB.out | apply pa | apply pN | apply p1 | refine bs ?_ E127.out | refine bs ?_ E128.out) | exact HB.out)) hb); clear B127 B128 HB; have B127 := N0; have B128 := N1; have HB := N2; clear N0 N1 N2; (try clear hb); (try clear hb2); (try clear hk); (try clear hi); have hcz143_0 : w142.cell? ⟨g128, 0, none⟩ = some (I q ab0) := (bc B128.out 0).trans rfl; have hcz143_1 : w142.cell? ⟨g128, 1, none⟩ = some (I q ab1) := (bc B128.out 1).trans rfl; have hcz143_2 : w142.cell? ⟨g128, 2, none⟩ = some (I q ab2) := (bc B128.out 2).trans rfl; have hcz143_3 : w142.cell? ⟨g128, 3, none⟩ = some (I q ab3) := (bc B128.out 3).trans rfl; have hcz143_4 : w142.cell? ⟨g128, 4, none⟩ = some (I q ab4) := (bc B128.out 4).trans rfl; have hcz143_5 : w142.cell? ⟨g128, 5, none⟩ = some (J Ab5 lb5.length cb5) := (bc B128.out 5).trans rfl; have hfz143_0 := bf B128.out 0; have hfz143_1 := bf B128.out 1; have hfz143_2 := bf B128.out 2; have hfz143_3 := bf B128.out 3; have hfz143_4 := bf B128.out 4; have hfz143_5 := bf B128.out 5) | ((with_reducible refine gate_callee (f := 15) rfl ?_); refine goesL_ (some 17) rfl rfl Try.func15 (by kernel_rfl) rfl #[.agg #[I q ab0, I q ab1, I q ab2, I q ab3, I q ab4, J Ab5 lb5.length cb5], I q t129] rfl (by (try simp only [List.map_toArray, List.map_cons, List.map_nil]); first | done | rfl | (simp only [List.length_drop, List.length_take]; rfl)) ?_; (with_reducible refine (laws_szPacket.calls ab0 ab1 ab2 ab3 ab4 _ _ lb5 t129 t130 _ ?side1 ?side2 A10.out).mono ?_); (case side1 => repeat (first | exact (Kd.C_below HR1_5.out HB.out) | (with_reducible refine ca ?_ _) | (with_reducible refine cN ?_ _) | (with_reducible refine cd1 ?_))); (case side2 => exact HC1_5.out); rintro e w144 ⟨rfl, hb⟩; refine ⟨_, rfl, ?_⟩; have N0 := am (bb (g := g127) (o := .cells #[I q aa0, I q aa1, I q aa2, I q aa3, I q aa4, J Aa5 la5.length ca5] 24 (0, 0)) (by (with_reducible repeat (first | apply bN | apply bd | apply ba)); exact B127.out) hb); have N1 := am (bb (g := g128) (o := .cells #[I q ab0, I q ab1, I q ab2, I q ab3, I q ab4, J Ab5 lb5.length cb5] 24 (0, 0)) (by (with_reducible repeat (first | apply bN | apply bd | apply ba)); exact B128.out) hb); have N2 := am (bp (by repeat (first | (with_reducible first | exact HB.out | apply pa | apply pN | apply p1 | refine bs ?_ E127.out | refine bs ?_ E128.out) | exact HB.out)) hb); clear B127 B128 HB; have B127 := N0; have B128 := N1; have HB := N2; clear N0 N1 N2; (try clear hb); (try clear hb2); (try clear hk); (try clear hi)))
          have N0 := am (bd B127.out)
          have N1 := am (bd B128.out)
          have N2 := am (p1 HB.out)
          clear B127
          clear B128
          clear HB
          have B127 := N0
          have B128 := N1
          have HB := N2
          clear N0 N1 N2
          refine start_ (n := 6) (S := fun w' => w'.cell? ⟨g127, 0, none⟩ = some (I q aa0) ∧ w'.cell? ⟨g127, 1, none⟩ = some (I q aa1) ∧ w'.cell? ⟨g127, 2, none⟩ = some (I q aa2) ∧ w'.cell? ⟨g127, 3, none⟩ = some (I q aa3) ∧ w'.cell? ⟨g127, 4, none⟩ = some (I q aa4) ∧ w'.cell? ⟨g127, 5, none⟩ = some (J Aa5 la5.length ca5) ∧ w'.cell? ⟨g128, 0, none⟩ = some (I q ab0) ∧ w'.cell? ⟨g128, 1, none⟩ = some (I q ab1) ∧ w'.cell? ⟨g128, 2, none⟩ = some (I q ab2) ∧ w'.cell? ⟨g128, 3, none⟩ = some (I q ab3) ∧ w'.cell? ⟨g128, 4, none⟩ = some (I q ab4) ∧ w'.cell? ⟨g128, 5, none⟩ = some (J Ab5 lb5.length cb5)) (ds := []) #[false, false, false, false, false, false] (by kernel_rfl) rfl rfl ⟨(bc B127.out 0).trans rfl, (bc B127.out 1).trans rfl, (bc B127.out 2).trans rfl, (bc B127.out 3).trans rfl, (bc B127.out 4).trans rfl, (bc B127.out 5).trans rfl, (bc B128.out 0).trans rfl, (bc B128.out 1).trans rfl, (bc B128.out 2).trans rfl, (bc B128.out 3).trans rfl, (bc B128.out 4).trans rfl, (bc B128.out 5).trans rfl⟩ (fun hHeld => ?_)
          generalize w144.drew = w145 at B127 B128 HB hHeld ⊢
          refine take_ (i := 0) (N := some 20) (v := ?_) (a' := ?_) #[true, false, false, false, false, false] rfl rfl (by kernel_rfl) (fun _ _ _ h => h) (Or.inl ⟨by rfl, ?_⟩) hHeld ?_ ?_
          rotate_left
          · rintro w' ⟨s0, s1, s2, s3, s4, s5, s6, s7, s8, s9, s10, s11⟩
            go_simp
            with_reducible rfl
          rotate_left
          · simp only [Act.put, List.setIfInBounds_toArray, List.set_cons_zero, List.set_cons_succ, i64_w, i32_w]
            rfl
          refine take_ (i := 2) (N := some 22) (v := ?_) (a' := ?_) #[true, false, true, false, false, false] rfl rfl (by kernel_rfl) (fun _ _ _ h => h) (Or.inl ⟨by rfl, ?_⟩) hHeld ?_ ?_
          rotate_left
          · rintro w' ⟨s0, s1, s2, s3, s4, s5, s6, s7, s8, s9, s10, s11⟩
            go_simp
            with_reducible rfl
          rotate_left
          · simp only [Act.put, List.setIfInBounds_toArray, List.set_cons_zero, List.set_cons_succ, i64_w, i32_w]
            rfl
          refine one_ (i := 1) (N := some 21) #[true, true, true, false, false, false] rfl rfl (by kernel_rfl) (by decide) (fun K hK => ?_)
          refine goes_ Try.func17 (by kernel_rfl) rfl #[.agg #[I q aa0, I q aa1, I q aa2, I q aa3, I q aa4, J Aa5 la5.length ca5]] (by rfl) rfl rfl (by (try simp only [List.map_toArray, List.map_cons, List.map_nil]); first | done | rfl | (simp only [List.length_drop, List.length_take]; rfl)) ?_
          with_reducible refine (laws_toPacket.calls k aa0 aa1 aa2 aa3 aa4 _ _ la5 t131 t132 t133 t134 t135 t136 _ ?side1 ?side2 A19.out).mono ?_
          (case side1 => repeat (first | exact (Kd.C_below HR0_5.out HB.out) | (with_reducible refine ca ?_ _) | (with_reducible refine cN ?_ _) | (with_reducible refine cd1 ?_)))
          (case side2 => exact HC0_5.out)
          rintro e w146 ⟨v137, rfl, ho0, hb⟩
          refine ⟨_, rfl, ?_⟩
          have N0 := am (rw1 ho0 (bz (by repeat (first | (with_reducible first | exact HB.out | apply pa | apply pN | apply p1 | refine bs ?_ E127.out | refine bs ?_ E128.out) | exact HB.out))))
          have N1 := am (bb (g := g127) (o := .cells #[I q aa0, I q aa1, I q aa2, I q aa3, I q aa4, J Aa5 la5.length ca5] 24 (0, 0)) (by (with_reducible repeat (first | apply bN | apply bd | apply ba)); exact B127.out) hb)
          have N2 := am (bb (g := g128) (o := .cells #[I q ab0, I q ab1, I q ab2, I q ab3, I q ab4, J Ab5 lb5.length cb5] 24 (0, 0)) (by (with_reducible repeat (first | apply bN | apply bd | apply ba)); exact B128.out) hb)
          have N3 := am (bp (by repeat (first | (with_reducible first | exact HB.out | apply pa | apply pN | apply p1 | refine bs ?_ E127.out | refine bs ?_ E128.out) | exact HB.out)) hb)
          clear B127
          clear B128
          clear HB
          have O138 := N0
          have B127 := N1
          have B128 := N2
          have HB := N3
          clear N0 N1 N2 N3
          (try clear hb)
          (try clear hb2)
          (try clear hk)
          (try clear hi)
          (try clear ho0)
          refine hK.out _ _ ⟨(bc B127.out 0).trans rfl, (bc B127.out 1).trans rfl, (bc B127.out 2).trans rfl, (bc B127.out 3).trans rfl, (bc B127.out 4).trans rfl, (bc B127.out 5).trans rfl, (bc B128.out 0).trans rfl, (bc B128.out 1).trans rfl, (bc B128.out 2).trans rfl, (bc B128.out 3).trans rfl, (bc B128.out 4).trans rfl, (bc B128.out 5).trans rfl⟩ (fun hHeld => ?_)
          clear hK K
          refine norm_ (a' := ?_) ?_ ?_
          rotate_left
          · show Act.put _ (some 21) _ = _
            simp only [Act.put, List.setIfInBounds_toArray, List.set_cons_zero, List.set_cons_succ, i64_w, i32_w]
            rfl
          refine one_ (i := 3) (N := some 23) #[true, true, true, true, false, false] rfl rfl (by kernel_rfl) (by decide) (fun K hK => ?_)
          refine goes_ Try.func17 (by kernel_rfl) rfl #[.agg #[I q ab0, I q ab1, I q ab2, I q ab3, I q ab4, J Ab5 lb5.length cb5]] (by rfl) rfl rfl (by (try simp only [List.map_toArray, List.map_cons, List.map_nil]); first | done | rfl | (simp only [List.length_drop, List.length_take]; rfl)) ?_
          with_reducible refine (laws_toPacket.calls k ab0 ab1 ab2 ab3 ab4 _ _ lb5 t139 t140 t141 t142 t143 t144 _ ?side1 ?side2 A20.out).mono ?_
          (case side1 => repeat (first | exact (Kd.C_below HR1_5.out HB.out) | (with_reducible refine ca ?_ _) | (with_reducible refine cN ?_ _) | (with_reducible refine cd1 ?_)))
          (case side2 => exact HC1_5.out)
          rintro e w147 ⟨v145, rfl, ho0, hb⟩
          refine ⟨_, rfl, ?_⟩
          have N0 := am (re (by (with_reducible repeat (first | apply ra | apply rN | apply rd1)); exact O138.out) (Kd.R_base ho0) hb)
          have N1 := am (rw1 (rn ho0 (rl (by (with_reducible repeat (first | apply ra | apply rN | apply rd1)); exact O138.out))) (bz (by repeat (first | (with_reducible first | exact HB.out | apply pa | apply pN | apply p1 | refine bs ?_ E127.out | refine bs ?_ E128.out) | exact HB.out))))
          have N2 := am (bb (g := g127) (o := .cells #[I q aa0, I q aa1, I q aa2, I q aa3, I q aa4, J Aa5 la5.length ca5] 24 (0, 0)) (by (with_reducible repeat (first | apply bN | apply bd | apply ba)); exact B127.out) hb)
          have N3 := am (bb (g := g128) (o := .cells #[I q ab0, I q ab1, I q ab2, I q ab3, I q ab4, J Ab5 lb5.length cb5] 24 (0, 0)) (by (with_reducible repeat (first | apply bN | apply bd | apply ba)); exact B128.out) hb)
          have N4 := am (bp (by repeat (first | (with_reducible first | exact HB.out | apply pa | apply pN | apply p1 | refine bs ?_ E127.out | refine bs ?_ E128.out) | exact HB.out)) hb)
          clear O138
          clear B127
          clear B128
          clear HB
          have O138 := N0
          have O146 := N1
          have B127 := N2
          have B128 := N3
          have HB := N4
          clear N0 N1 N2 N3 N4
          (try clear hb)
          (try clear hb2)
          (try clear hk)
          (try clear hi)
          (try clear ho0)
          obtain ⟨Ao148, co148, eo148⟩ := Kd.R_slice O138.out
          (first | subst eo148 | (injection eo148 with f1_ f2_ f3_; have f4_ := f1_.symm; have f5_ := f3_.symm; clear f1_ f2_ f3_; subst f4_; subst f5_))
          obtain ⟨Ao149, co149, eo149⟩ := Kd.R_slice O146.out
          (first | subst eo149 | (injection eo149 with f1_ f2_ f3_; have f4_ := f1_.symm; have f5_ := f3_.symm; clear f1_ f2_ f3_; subst f4_; subst f5_))
          refine hK.out _ _ ⟨(bc B127.out 0).trans rfl, (bc B127.out 1).trans rfl, (bc B127.out 2).trans rfl, (bc B127.out 3).trans rfl, (bc B127.out 4).trans rfl, (bc B127.out 5).trans rfl, (bc B128.out 0).trans rfl, (bc B128.out 1).trans rfl, (bc B128.out 2).trans rfl, (bc B128.out 3).trans rfl, (bc B128.out 4).trans rfl, (bc B128.out 5).trans rfl⟩ (fun hHeld => ?_)
          clear hK K
          refine norm_ (a' := ?_) ?_ ?_
          rotate_left
          · show Act.put _ (some 23) _ = _
            simp only [Act.put, List.setIfInBounds_toArray, List.set_cons_zero, List.set_cons_succ, i64_w, i32_w]
            rfl
          refine one_ (i := 4) (N := some 24) #[true, true, true, true, true, false] rfl rfl (by kernel_rfl) (by decide) (fun K hK => ?_)
          refine goes_ Try.func16 (by kernel_rfl) rfl #[.agg #[I q t131, I q t132, I q t133, I q t134, I q t135, J Ao148 t136.length co148], .agg #[I q t139, I q t140, I q t141, I q t142, I q t143, J Ao149 t144.length co149]] (by rfl) rfl rfl (by (try simp only [List.map_toArray, List.map_cons, List.map_nil]); first | done | rfl | (simp only [List.length_drop, List.length_take]; rfl)) ?_
          with_reducible refine (spec_SamePacket.calls t131 t132 t133 t134 t135 _ _ t136 t139 t140 t141 t142 t143 _ _ t144 t147 _ ?side1 ?side2 ?side3 ?side4 A21.out).mono ?_
          (case side1 => repeat (first | exact (Kd.R_reads' O138.out).2.2 | (with_reducible refine ca ?_ _) | (with_reducible refine cN ?_ _) | (with_reducible refine cd1 ?_)))
          (case side2 => exact (Kd.R_reads' O138.out).2.1)
          (case side3 => repeat (first | exact (Kd.R_reads' O146.out).2.2 | (with_reducible refine ca ?_ _) | (with_reducible refine cN ?_ _) | (with_reducible refine cd1 ?_)))
          (case side4 => exact (Kd.R_reads' O146.out).2.1)
          rintro e w150 ⟨rfl, hb⟩
          refine ⟨_, rfl, ?_⟩
          have N0 := am (rb (by (with_reducible repeat (first | apply ra | apply rN | apply rd1)); exact O138.out) hb)
          have N1 := am (rb (by (with_reducible repeat (first | apply ra | apply rN | apply rd1)); exact O146.out) hb)
          have N2 := am (bb (g := g127) (o := .cells #[I q aa0, I q aa1, I q aa2, I q aa3, I q aa4, J Aa5 la5.length ca5] 24 (0, 0)) (by (with_reducible repeat (first | apply bN | apply bd | apply ba)); exact B127.out) hb)
          have N3 := am (bb (g := g128) (o := .cells #[I q ab0, I q ab1, I q ab2, I q ab3, I q ab4, J Ab5 lb5.length cb5] 24 (0, 0)) (by (with_reducible repeat (first | apply bN | apply bd | apply ba)); exact B128.out) hb)
          have N4 := am (bp (by repeat (first | (with_reducible first | exact HB.out | apply pa | apply pN | apply p1 | refine bs ?_ E127.out | refine bs ?_ E128.out) | exact HB.out)) hb)
          clear O138
          clear O146
          clear B127
          clear B128
          clear HB
          have O138 := N0
          have O146 := N1
          have B127 := N2
          have B128 := N3
          have HB := N4
          clear N0 N1 N2 N3 N4
          (try clear hb)
          (try clear hb2)
          (try clear hk)
          (try clear hi)
          refine hK.out _ _ ⟨(bc B127.out 0).trans rfl, (bc B127.out 1).trans rfl, (bc B127.out 2).trans rfl, (bc B127.out 3).trans rfl, (bc B127.out 4).trans rfl, (bc B127.out 5).trans rfl, (bc B128.out 0).trans rfl, (bc B128.out 1).trans rfl, (bc B128.out 2).trans rfl, (bc B128.out 3).trans rfl, (bc B128.out 4).trans rfl, (bc B128.out 5).trans rfl⟩ (fun hHeld => ?_)
          clear hK K
          refine norm_ (a' := ?_) ?_ ?_
          rotate_left
          · show Act.put _ (some 24) _ = _
            simp only [Act.put, List.setIfInBounds_toArray, List.set_cons_zero, List.set_cons_succ, i64_w, i32_w]
            rfl
          refine pure_ (i := 5) (N := some 6) (v := ?_) (a' := ?_) #[true, true, true, true, true, true] rfl rfl (by kernel_rfl) (fun _ _ _ h => h) (Or.inl ⟨by rfl, ?_⟩) ?_ ?_
          rotate_left
          · intro w'
            first | (go_simp; with_reducible rfl) | (go_simp; (try unfold Instr.field); go_simp; (try simp only [asAgg]); go_simp; with_reducible rfl)
          rotate_left
          · simp only [Act.put, List.setIfInBounds_toArray, List.set_cons_zero, List.set_cons_succ, i64_w, i32_w]
            rfl
          refine done_ (by kernel_rfl) ?_
          have hcz151_0 : w150.cell? ⟨g127, 0, none⟩ = some (I q aa0) := (bc B127.out 0).trans rfl
          have hcz151_1 : w150.cell? ⟨g127, 1, none⟩ = some (I q aa1) := (bc B127.out 1).trans rfl
          have hcz151_2 : w150.cell? ⟨g127, 2, none⟩ = some (I q aa2) := (bc B127.out 2).trans rfl
          have hcz151_3 : w150.cell? ⟨g127, 3, none⟩ = some (I q aa3) := (bc B127.out 3).trans rfl
          have hcz151_4 : w150.cell? ⟨g127, 4, none⟩ = some (I q aa4) := (bc B127.out 4).trans rfl
          have hcz151_5 : w150.cell? ⟨g127, 5, none⟩ = some (J Aa5 la5.length ca5) := (bc B127.out 5).trans rfl
          have hfz151_0 := bf B127.out 0
          have hfz151_1 := bf B127.out 1
          have hfz151_2 := bf B127.out 2
          have hfz151_3 := bf B127.out 3
          have hfz151_4 := bf B127.out 4
          have hfz151_5 := bf B127.out 5
          try go_wp2_with (first | ((with_reducible refine gate_callee (f := 17) rfl ?_); refine goesL_ (some 26) rfl rfl Try.func17 (by kernel_rfl) rfl #[.agg #[I q aa0, I q aa1, I q aa2, I q aa3, I q aa4, J Aa5 la5.length ca5]] rfl (by (try simp only [List.map_toArray, List.map_cons, List.map_nil]); first | done | rfl | (simp only [List.length_drop, List.length_take]; rfl)) ?_; (with_reducible refine (laws_toPacket.calls k aa0 aa1 aa2 aa3 aa4 _ _ la5 t148 t149 t150 t151 t152 t153 _ ?side1 ?side2 A22.out).mono ?_); (case side1 => repeat (first | exact (Kd.C_below HR0_5.out HB.out) | (with_reducible refine ca ?_ _) | (with_reducible refine cN ?_ _) | (with_reducible refine cd1 ?_))); (case side2 => exact HC0_5.out); rintro e w152 ⟨v154, rfl, ho0, hb⟩; refine ⟨_, rfl, ?_⟩; have N0 := am (re (by (with_reducible repeat (first | apply ra | apply rN | apply rd1)); exact O138.out) (Kd.R_base ho0) hb); have N1 := am (re (by (with_reducible repeat (first | apply ra | apply rN | apply rd1)); exact O146.out) (Kd.R_base ho0) hb); have N2 := am (rw1 (rn (rn ho0 (rl (by (with_reducible repeat (first | apply ra | apply rN | apply rd1)); exact O138.out))) (rl (by (with_reducible repeat (first | apply ra | apply rN | apply rd1)); exact O146.out))) (bz (by repeat (first | (with_reducible first | exact HB.out | apply pa | apply pN | apply p1 | refine bs ?_ E127.out | refine bs ?_ E128.out) | exact HB.out)))); have N3 := am (bb (g := g127) (o := .cells #[I q aa0, I q aa1, I q aa2, I q aa3, I q aa4, J Aa5 la5.length ca5] 24 (0, 0)) (by (with_reducible repeat (first | apply bN | apply bd | apply ba)); exact B127.out) hb); have N4 := am (bb (g := g128) (o := .cells #[I q ab0, I q ab1, I q ab2, I q ab3, I q ab4, J Ab5 lb5.length cb5] 24 (0, 0)) (by (with_reducible repeat (first | apply bN | apply bd | apply ba)); exact B128.out) hb); have N5 := am (bp (by repeat (first | (with_reducible first | exact HB.out | apply pa | apply pN | apply p1 | refine bs ?_ E127.out | refine bs ?_ E128.out) | exact HB.out)) hb); clear O138 O146 B127 B128 HB; have O138 := N0; have O146 := N1; have O155 := N2; have B127 := N3; have B128 := N4; have HB := N5; clear N0 N1 N2 N3 N4 N5; (try clear hb); (try clear hb2); (try clear hk); (try clear hi); (try clear ho0)) | ((with_reducible refine gate_dst (N := 7) rfl ?_); refine box_event ?hg (N := 7) ?hd (cs := #[I q 0, I q 0, I q 0, I q 0, I q 0, .slice none 0 0]) (t := 27) ?hr ?_; (case hd => rfl); (case hg => rfl); (case hr => first | (go_simp; done) | (go_simp; rfl)); intro g156 hg w153 hbox hb; have N0 := am (rb (by (with_reducible repeat (first | apply ra | apply rN | apply rd1)); exact O138.out) hb); have N1 := am (rb (by (with_reducible repeat (first | apply ra | apply rN | apply rd1)); exact O146.out) hb); have N2 := am (rb (by (with_reducible repeat (first | apply ra | apply rN | apply rd1)); exact O155.out) hb); have N3 := am (bb (g := g127) (o := .cells #[I q aa0, I q aa1, I q aa2, I q aa3, I q aa4, J Aa5 la5.length ca5] 24 (0, 0)) (by (with_reducible repeat (first | apply bN | apply bd | apply ba)); exact B127.out) hb); have N4 := am (bb (g := g128) (o := .cells #[I q ab0, I q ab1, I q ab2, I q ab3, I q ab4, J Ab5 lb5.length cb5] 24 (0, 0)) (by (with_reducible repeat (first | apply bN | apply bd | apply ba)); exact B128.out) hb); have N5 := am (bp (by repeat (first | (with_reducible first | exact HB.out | apply pa | apply pN | apply p1 | refine bs ?_ E127.out | refine bs ?_ E128.out) | exact HB.out)) hb); have N6 := am (hbox); have N7 := am ((by rw [hg]; exact (bz (by repeat (first | (with_reducible first | exact HB.out | apply pa | apply pN | apply p1 | refine bs ?_ E127.out | refine bs ?_ E128.out) | exact HB.out))) : w.heap.size ≤ g156)); have N8 := am ((by rw [hg]; exact (bz (by repeat (first | (with_reducible first | exact HB.out | apply pa | apply pN | apply p1 | refine bs ?_ E127.out | refine bs ?_ E128.out) | exact HB.out))) : w.heap.size ≤ g156)); have N9 := am ((by rw [hg]; exact Nat.ne_of_lt (bl (g := g127) (o := .cells #[I q aa0, I q aa1, I q aa2, I q aa3, I q aa4, J Aa5 la5.length ca5] 24 (0, 0)) (by (with_reducible repeat (first | apply bN | apply bd | apply ba)); exact B127.out)) : g127 ≠ g156)); have N10 := am ((by rw [hg]; exact Nat.ne_of_gt (bl (g := g127) (o := .cells #[I q aa0, I q aa1, I q aa2, I q aa3, I q aa4, J Aa5 la5.length ca5] 24 (0, 0)) (by (with_reducible repeat (first | apply bN | apply bd | apply ba)); exact B127.out)) : g156 ≠ g127)); have N11 := am ((by rw [hg]; exact Nat.ne_of_lt (bl (g := g128) (o := .cells #[I q ab0, I q ab1, I q ab2, I q ab3, I q ab4, J Ab5 lb5.length cb5] 24 (0, 0)) (by (with_reducible repeat (first | apply bN | apply bd | apply ba)); exact B128.out)) : g128 ≠ g156)); have N12 := am ((by rw [hg]; exact Nat.ne_of_gt (bl (g := g128) (o := .cells #[I q ab0, I q ab1, I q ab2, I q ab3, I q ab4, J Ab5 lb5.length cb5] 24 (0, 0)) (by (with_reducible repeat (first | apply bN | apply bd | apply ba)); exact B128.out)) : g156 ≠ g128)); clear O138 O146 O155 B127 B128 HB; have O138 := N0; have O146 := N1; have O155 := N2; have B127 := N3; have B128 := N4; have HB := N5; have B156 := N6; have GW156 := N7; have E156 := N8; have NB127_156 := N9; have NB156_127 := N10; have NB128_156 := N11; have NB156_128 := N12; clear N0 N1 N2 N3 N4 N5 N6 N7 N8 N9 N10 N11 N12 hb hbox hg; have hnb154 := NB156_127.out; have hnc154 := NB127_156.out; have hnb155 := NB156_128.out; have hnc155 := NB128_156.out; have hcz156_0 : w153.cell? ⟨g156, 0, none⟩ = some (I q 0) := (bc B156.out 0).trans rfl; have hcz156_1 : w153.cell? ⟨g156, 1, none⟩ = some (I q 0) := (bc B156.out 1).trans rfl; have hcz156_2 : w153.cell? ⟨g156, 2, none⟩ = some (I q 0) := (bc B156.out 2).trans rfl; have hcz156_3 : w153.cell? ⟨g156, 3, none⟩ = some (I q 0) := (bc B156.out 3).trans rfl; have hcz156_4 : w153.cell? ⟨g156, 4, none⟩ = some (I q 0) := (bc B156.out 4).trans rfl; have hcz156_5 : w153.cell? ⟨g156, 5, none⟩ = some (.slice none 0 0) := (bc B156.out 5).trans rfl; have hfz156_0 := bf B156.out 0; have hfz156_1 := bf B156.out 1; have hfz156_2 := bf B156.out 2; have hfz156_3 := bf B156.out 3; have hfz156_4 := bf B156.out 4; have hfz156_5 := bf B156.out 5; obtain ⟨Ao157, co157, eo157⟩ := Kd.R_slice O155.out; subst eo157; have hcz158_0 : w153.cell? ⟨g128, 0, none⟩ = some (I q ab0) := (bc B128.out 0).trans rfl; have hcz158_1 : w153.cell? ⟨g128, 1, none⟩ = some (I q ab1) := (bc B128.out 1).trans rfl; have hcz158_2 : w153.cell? ⟨g128, 2, none⟩ = some (I q ab2) := (bc B128.out 2).trans rfl; have hcz158_3 : w153.cell? ⟨g128, 3, none⟩ = some (I q ab3) := (bc B128.out 3).trans rfl; have hcz158_4 : w153.cell? ⟨g128, 4, none⟩ = some (I q ab4) := (bc B128.out 4).trans rfl; have hcz158_5 : w153.cell? ⟨g128, 5, none⟩ = some (J Ab5 lb5.length cb5) := (bc B128.out 5).trans rfl; have hfz158_0 := bf B128.out 0; have hfz158_1 := bf B128.out 1; have hfz158_2 := bf B128.out 2; have hfz158_3 := bf B128.out 3; have hfz158_4 := bf B128.out 4; have hfz158_5 := bf B128.out 5) | ((with_reducible refine gate_callee (f := 17) rfl ?_); refine goesL_ (some 28) rfl rfl Try.func17 (by kernel_rfl) rfl #[.agg #[I q ab0, I q ab1, I q ab2, I q ab3, I q ab4, J Ab5 lb5.length cb5]] rfl (by (try simp only [List.map_toArray, List.map_cons, List.map_nil]); first | done | rfl | (simp only [List.length_drop, List.length_take]; rfl)) ?_; (with_reducible refine (laws_toPacket.calls k ab0 ab1 ab2 ab3 ab4 _ _ lb5 t157 t158 t159 t160 t161 t162 _ ?side1 ?side2 A23.out).mono ?_); (case side1 => exact Kd.C_below HR1_5.out (by repeat (first | (with_reducible first | exact HB.out | apply pa | apply pN | apply p1 | refine bs ?_ E127.out | refine bs ?_ E128.out | refine bs ?_ E156.out) | exact HB.out))); (case side2 => exact HC1_5.out); rintro e w159 ⟨v163, rfl, ho0, hb⟩; refine ⟨_, rfl, ?_⟩; have N0 := am (re (by (with_reducible repeat (first | apply ra | apply rN | apply rd1)); exact (Kd.R_mono (rf (p := ⟨g156, 5, none⟩) (rf (p := ⟨g156, 4, none⟩) (rf (p := ⟨g156, 3, none⟩) (rf (p := ⟨g156, 2, none⟩) (rf (p := ⟨g156, 1, none⟩) (rf (p := ⟨g156, 0, none⟩) (Kd.R_types O138.out B156.out (by decide)) (fun _ hk => hk.2) (I q t148)) (fun _ hk => hk.2) (I q t149)) (fun _ hk => hk.2) (I q t150)) (fun _ hk => hk.2) (I q t151)) (fun _ hk => hk.2) (I q t152)) (fun _ hk => hk.2) (J Ao157 t153.length co157)) (fun _ h_ => h_.1))) (Kd.R_base ho0) hb); have N1 := am (re (by (with_reducible repeat (first | apply ra | apply rN | apply rd1)); exact (Kd.R_mono (rf (p := ⟨g156, 5, none⟩) (rf (p := ⟨g156, 4, none⟩) (rf (p := ⟨g156, 3, none⟩) (rf (p := ⟨g156, 2, none⟩) (rf (p := ⟨g156, 1, none⟩) (rf (p := ⟨g156, 0, none⟩) (Kd.R_types O146.out B156.out (by decide)) (fun _ hk => hk.2) (I q t148)) (fun _ hk => hk.2) (I q t149)) (fun _ hk => hk.2) (I q t150)) (fun _ hk => hk.2) (I q t151)) (fun _ hk => hk.2) (I q t152)) (fun _ hk => hk.2) (J Ao157 t153.length co157)) (fun _ h_ => h_.1))) (Kd.R_base ho0) hb); have N2 := am (re (by (with_reducible repeat (first | apply ra | apply rN | apply rd1)); exact (Kd.R_mono (rf (p := ⟨g156, 5, none⟩) (rf (p := ⟨g156, 4, none⟩) (rf (p := ⟨g156, 3, none⟩) (rf (p := ⟨g156, 2, none⟩) (rf (p := ⟨g156, 1, none⟩) (rf (p := ⟨g156, 0, none⟩) (Kd.R_types O155.out B156.out (by decide)) (fun _ hk => hk.2) (I q t148)) (fun _ hk => hk.2) (I q t149)) (fun _ hk => hk.2) (I q t150)) (fun _ hk => hk.2) (I q t151)) (fun _ hk => hk.2) (I q t152)) (fun _ hk => hk.2) (J Ao157 t153.length co157)) (fun _ h_ => h_.1))) (Kd.R_base ho0) hb); have N3 := am (rw1 (rn (rn (rn ho0 (rl (by (with_reducible repeat (first | apply ra | apply rN | apply rd1)); exact (Kd.R_mono (rf (p := ⟨g156, 5, none⟩) (rf (p := ⟨g156, 4, none⟩) (rf (p := ⟨g156, 3, none⟩) (rf (p := ⟨g156, 2, none⟩) (rf (p := ⟨g156, 1, none⟩) (rf (p := ⟨g156, 0, none⟩) (Kd.R_types O138.out B156.out (by decide)) (fun _ hk => hk.2) (I q t148)) (fun _ hk => hk.2) (I q t149)) (fun _ hk => hk.2) (I q t150)) (fun _ hk => hk.2) (I q t151)) (fun _ hk => hk.2) (I q t152)) (fun _ hk => hk.2) (J Ao157 t153.length co157)) (fun _ h_ => h_.1))))) (rl (by (with_reducible repeat (first | apply ra | apply rN | apply rd1)); exact (Kd.R_mono (rf (p := ⟨g156, 5, none⟩) (rf (p := ⟨g156, 4, none⟩) (rf (p := ⟨g156, 3, none⟩) (rf (p := ⟨g156, 2, none⟩) (rf (p := ⟨g156, 1, none⟩) (rf (p := ⟨g156, 0, none⟩) (Kd.R_types O146.out B156.out (by decide)) (fun _ hk => hk.2) (I q t148)) (fun _ hk => hk.2) (I q t149)) (fun _ hk => hk.2) (I q t150)) (fun _ hk => hk.2) (I q t151)) (fun _ hk => hk.2) (I q t152)) (fun _ hk => hk.2) (J Ao157 t153.length co157)) (fun _ h_ => h_.1))))) (rl (by (with_reducible repeat (first | apply ra | apply rN | apply rd1)); exact (Kd.R_mono (rf (p := ⟨g156, 5, none⟩) (rf (p := ⟨g156, 4, none⟩) (rf (p := ⟨g156, 3, none⟩) (rf (p := ⟨g156, 2, none⟩) (rf (p := ⟨g156, 1, none⟩) (rf (p := ⟨g156, 0, none⟩) (Kd.R_types O155.out B156.out (by decide)) (fun _ hk => hk.2) (I q t148)) (fun _ hk => hk.2) (I q t149)) (fun _ hk => hk.2) (I q t150)) (fun _ hk => hk.2) (I q t151)) (fun _ hk => hk.2) (I q t152)) (fun _ hk => hk.2) (J Ao157 t153.length co157)) (fun _ h_ => h_.1))))) (bz (by repeat (first | (with_reducible first | exact HB.out | apply pa | apply pN | apply p1 | refine bs ?_ E127.out | refine bs ?_ E128.out | refine bs ?_ E156.out) | exact HB.out)))); have N4 := am (bb (g := g127) (o := .cells #[I q aa0, I q aa1, I q aa2, I q aa3, I q aa4, J Aa5 la5.length ca5] 24 (0, 0)) (by (with_reducible repeat (first | apply bN | apply bd | apply ba)); refine bq ?_ NB127_156.out _; (with_reducible repeat (first | apply bN | apply bd | apply ba)); refine bq ?_ NB127_156.out _; (with_reducible repeat (first | apply bN | apply bd | apply ba)); refine bq ?_ NB127_156.out _; (with_reducible repeat (first | apply bN | apply bd | apply ba)); refine bq ?_ NB127_156.out _; (with_reducible repeat (first | apply bN | apply bd | apply ba)); refine bq ?_ NB127_156.out _; (with_reducible repeat (first | apply bN | apply bd | apply ba)); refine bq ?_ NB127_156.out _; (with_reducible repeat (first | apply bN | apply bd | apply ba)); exact B127.out) hb); have N5 := am (bb (g := g128) (o := .cells #[I q ab0, I q ab1, I q ab2, I q ab3, I q ab4, J Ab5 lb5.length cb5] 24 (0, 0)) (by (with_reducible repeat (first | apply bN | apply bd | apply ba)); refine bq ?_ NB128_156.out _; (with_reducible repeat (first | apply bN | apply bd | apply ba)); refine bq ?_ NB128_156.out _; (with_reducible repeat (first | apply bN | apply bd | apply ba)); refine bq ?_ NB128_156.out _; (with_reducible repeat (first | apply bN | apply bd | apply ba)); refine bq ?_ NB128_156.out _; (with_reducible repeat (first | apply bN | apply bd | apply ba)); refine bq ?_ NB128_156.out _; (with_reducible repeat (first | apply bN | apply bd | apply ba)); refine bq ?_ NB128_156.out _; (with_reducible repeat (first | apply bN | apply bd | apply ba)); exact B128.out) hb); have N6 := am (bb (g := g156) (o := .cells #[I q t148, I q t149, I q t150, I q t151, I q t152, J Ao157 t153.length co157] 27 (0, 0)) (by (with_reducible repeat (first | apply bN | apply bd | apply ba)); refine blk_put (cs := #[I q t148, I q t149, I q t150, I q t151, I q t152, .slice none 0 0]) ?_ 5 _ rfl; (with_reducible repeat (first | apply bN | apply bd | apply ba)); refine blk_put (cs := #[I q t148, I q t149, I q t150, I q t151, I q 0, .slice none 0 0]) ?_ 4 _ rfl; (with_reducible repeat (first | apply bN | apply bd | apply ba)); refine blk_put (cs := #[I q t148, I q t149, I q t150, I q 0, I q 0, .slice none 0 0]) ?_ 3 _ rfl; (with_reducible repeat (first | apply bN | apply bd | apply ba)); refine blk_put (cs := #[I q t148, I q t149, I q 0, I q 0, I q 0, .slice none 0 0]) ?_ 2 _ rfl; (with_reducible repeat (first | apply bN | apply bd | apply ba)); refine blk_put (cs := #[I q t148, I q 0, I q 0, I q 0, I q 0, .slice none 0 0]) ?_ 1 _ rfl; (with_reducible repeat (first | apply bN | apply bd | apply ba)); refine blk_put (cs := #[I q 0, I q 0, I q 0, I q 0, I q 0, .slice none 0 0]) ?_ 0 _ rfl; (with_reducible repeat (first | apply bN | apply bd | apply ba)); exact B156.out) hb); have N7 := am (bp (by repeat (first | (with_reducible first | exact HB.out | apply pa | apply pN | apply p1 | refine bs ?_ E127.out | refine bs ?_ E128.out | refine bs ?_ E156.out) | exact HB.out)) hb); clear O138 O146 O155 B127 B128 B156 HB; have O138 := N0; have O146 := N1; have O155 := N2; have O164 := N3; have B127 := N4; have B128 := N5; have B156 := N6; have HB := N7; clear N0 N1 N2 N3 N4 N5 N6 N7; (try clear hb); (try clear hb2); (try clear hk); (try clear hi); (try clear ho0)) | ((with_reducible refine gate_dst (N := 8) rfl ?_); refine box_event ?hg (N := 8) ?hd (cs := #[I q 0, I q 0, I q 0, I q 0, I q 0, .slice none 0 0]) (t := 27) ?hr ?_; (case hd => rfl); (case hg => rfl); (case hr => first | (go_simp; done) | (go_simp; rfl)); intro g165 hg w160 hbox hb; have N0 := am (rb (by (with_reducible repeat (first | apply ra | apply rN | apply rd1)); exact O138.out) hb); have N1 := am (rb (by (with_reducible repeat (first | apply ra | apply rN | apply rd1)); exact O146.out) hb); have N2 := am (rb (by (with_reducible repeat (first | apply ra | apply rN | apply rd1)); exact O155.out) hb); have N3 := am (rb (by (with_reducible repeat (first | apply ra | apply rN | apply rd1)); exact O164.out) hb); have N4 := am (bb (g := g127) (o := .cells #[I q aa0, I q aa1, I q aa2, I q aa3, I q aa4, J Aa5 la5.length ca5] 24 (0, 0)) (by (with_reducible repeat (first | apply bN | apply bd | apply ba)); exact B127.out) hb); have N5 := am (bb (g := g128) (o := .cells #[I q ab0, I q ab1, I q ab2, I q ab3, I q ab4, J Ab5 lb5.length cb5] 24 (0, 0)) (by (with_reducible repeat (first | apply bN | apply bd | apply ba)); exact B128.out) hb); have N6 := am (bb (g := g156) (o := .cells #[I q t148, I q t149, I q t150, I q t151, I q t152, J Ao157 t153.length co157] 27 (0, 0)) (by (with_reducible repeat (first | apply bN | apply bd | apply ba)); exact B156.out) hb); have N7 := am (bp (by repeat (first | (with_reducible first | exact HB.out | apply pa | apply pN | apply p1 | refine bs ?_ E127.out | refine bs ?_ E128.out | refine bs ?_ E156.out) | exact HB.out)) hb); have N8 := am (hbox); have N9 := am ((by rw [hg]; exact (bz (by repeat (first | (with_reducible first | exact HB.out | apply pa | apply pN | apply p1 | refine bs ?_ E127.out | refine bs ?_ E128.out | refine bs ?_ E156.out) | exact HB.out))) : w.heap.size ≤ g165)); have N10 := am ((by rw [hg]; exact (bz (by repeat (first | (with_reducible first | exact HB.out | apply pa | apply pN | apply p1 | refine bs ?_ E127.out | refine bs ?_ E128.out | refine bs ?_ E156.out) | exact HB.out))) : w.heap.size ≤ g165)); have N11 := am ((by rw [hg]; exact Nat.ne_of_lt (bl (g := g127) (o := .cells #[I q aa0, I q aa1, I q aa2, I q aa3, I q aa4, J Aa5 la5.length ca5] 24 (0, 0)) (by (with_reducible repeat (first | apply bN | apply bd | apply ba)); exact B127.out)) : g127 ≠ g165)); have N12 := am ((by rw [hg]; exact Nat.ne_of_gt (bl (g := g127) (o := .cells #[I q aa0, I q aa1, I q aa2, I q aa3, I q aa4, J Aa5 la5.length ca5] 24 (0, 0)) (by (with_reducible repeat (first | apply bN | apply bd | apply ba)); exact B127.out)) : g165 ≠ g127)); have N13 := am ((by rw [hg]; exact Nat.ne_of_lt (bl (g := g128) (o := .cells #[I q ab0, I q ab1, I q ab2, I q ab3, I q ab4, J Ab5 lb5.length cb5] 24 (0, 0)) (by (with_reducible repeat (first | apply bN | apply bd | apply ba)); exact B128.out)) : g128 ≠ g165)); have N14 := am ((by rw [hg]; exact Nat.ne_of_gt (bl (g := g128) (o := .cells #[I q ab0, I q ab1, I q ab2, I q ab3, I q ab4, J Ab5 lb5.length cb5] 24 (0, 0)) (by (with_reducible repeat (first | apply bN | apply bd | apply ba)); exact B128.out)) : g165 ≠ g128)); have N15 := am ((by rw [hg]; exact Nat.ne_of_lt (bl (g := g156) (o := .cells #[I q t148, I q t149, I q t150, I q t151, I q t152, J Ao157 t153.length co157] 27 (0, 0)) (by (with_reducible repeat (first | apply bN | apply bd | apply ba)); exact B156.out)) : g156 ≠ g165)); have N16 := am ((by rw [hg]; exact Nat.ne_of_gt (bl (g := g156) (o := .cells #[I q t148, I q t149, I q t150, I q t151, I q t152, J Ao157 t153.length co157] 27 (0, 0)) (by (with_reducible repeat (first | apply bN | apply bd | apply ba)); exact B156.out)) : g165 ≠ g156)); clear O138 O146 O155 O164 B127 B128 B156 HB; have O138 := N0; have O146 := N1; have O155 := N2; have O164 := N3; have B127 := N4; have B128 := N5; have B156 := N6; have HB := N7; have B165 := N8; have GW165 := N9; have E165 := N10; have NB127_165 := N11; have NB165_127 := N12; have NB128_165 := N13; have NB165_128 := N14; have NB156_165 := N15; have NB165_156 := N16; clear N0 N1 N2 N3 N4 N5 N6 N7 N8 N9 N10 N11 N12 N13 N14 N15 N16 hb hbox hg; have hnb161 := NB165_127.out; have hnc161 := NB127_165.out; have hnb162 := NB165_128.out; have hnc162 := NB128_165.out; have hnb163 := NB165_156.out; have hnc163 := NB156_165.out; have hcz164_0 : w160.cell? ⟨g165, 0, none⟩ = some (I q 0) := (bc B165.out 0).trans rfl; have hcz164_1 : w160.cell? ⟨g165, 1, none⟩ = some (I q 0) := (bc B165.out 1).trans rfl; have hcz164_2 : w160.cell? ⟨g165, 2, none⟩ = some (I q 0) := (bc B165.out 2).trans rfl; have hcz164_3 : w160.cell? ⟨g165, 3, none⟩ = some (I q 0) := (bc B165.out 3).trans rfl; have hcz164_4 : w160.cell? ⟨g165, 4, none⟩ = some (I q 0) := (bc B165.out 4).trans rfl; have hcz164_5 : w160.cell? ⟨g165, 5, none⟩ = some (.slice none 0 0) := (bc B165.out 5).trans rfl; have hfz164_0 := bf B165.out 0; have hfz164_1 := bf B165.out 1; have hfz164_2 := bf B165.out 2; have hfz164_3 := bf B165.out 3; have hfz164_4 := bf B165.out 4; have hfz164_5 := bf B165.out 5; obtain ⟨Ao165, co165, eo165⟩ := Kd.R_slice O164.out; subst eo165; have hcz166_0 : w160.cell? ⟨g156, 0, none⟩ = some (I q t148) := (bc B156.out 0).trans rfl; have hcz166_1 : w160.cell? ⟨g156, 1, none⟩ = some (I q t149) := (bc B156.out 1).trans rfl; have hcz166_2 : w160.cell? ⟨g156, 2, none⟩ = some (I q t150) := (bc B156.out 2).trans rfl; have hcz166_3 : w160.cell? ⟨g156, 3, none⟩ = some (I q t151) := (bc B156.out 3).trans rfl; have hcz166_4 : w160.cell? ⟨g156, 4, none⟩ = some (I q t152) := (bc B156.out 4).trans rfl; have hcz166_5 : w160.cell? ⟨g156, 5, none⟩ = some (J Ao157 t153.length co157) := (bc B156.out 5).trans rfl; have hfz166_0 := bf B156.out 0; have hfz166_1 := bf B156.out 1; have hfz166_2 := bf B156.out 2; have hfz166_3 := bf B156.out 3; have hfz166_4 := bf B156.out 4; have hfz166_5 := bf B156.out 5) | ((with_reducible refine gate_callee (f := 18) rfl ?_); refine goesL_ (some 31) rfl rfl Try.func18 (by kernel_rfl) rfl #[.agg #[I q t148, I q t149, I q t150, I q t151, I q t152, J Ao157 t153.length co157], .agg #[I q t157, I q t158, I q t159, I q t160, I q t161, J Ao165 t162.length co165]] rfl (by (try simp only [List.map_toArray, List.map_cons, List.map_nil]); first | done | rfl | (simp only [List.length_drop, List.length_take]; rfl)) ?_; (with_reducible refine (impl_SamePacket.calls t148 t149 t150 t151 t152 _ _ t153 t157 t158 t159 t160 t161 _ _ t162 t166 _ ?side1 ?side2 ?side3 ?side4 A24.out).mono ?_); (case side1 => refine (Kd.R_reads' (e := 5) (base := w.heap.size) (ok := fun k_ => (((True ∧ some k_ ≠ (J Ao148 t136.length co148 : Value).ownBlock) ∧ some k_ ≠ (J Ao149 t144.length co149 : Value).ownBlock) ∧ some k_ ≠ (J Ao165 t162.length co165 : Value).ownBlock)) (n := t153.length) (c := co157) ?_).2.2; exact (by (with_reducible repeat (first | apply ra | apply rN | apply rd1)); exact (Kd.R_mono (rf (p := ⟨g165, 5, none⟩) (rf (p := ⟨g165, 4, none⟩) (rf (p := ⟨g165, 3, none⟩) (rf (p := ⟨g165, 2, none⟩) (rf (p := ⟨g165, 1, none⟩) (rf (p := ⟨g165, 0, none⟩) (Kd.R_types O155.out B165.out (by decide)) (fun _ hk => hk.2) (I q t157)) (fun _ hk => hk.2) (I q t158)) (fun _ hk => hk.2) (I q t159)) (fun _ hk => hk.2) (I q t160)) (fun _ hk => hk.2) (I q t161)) (fun _ hk => hk.2) (J Ao165 t162.length co165)) (fun _ h_ => h_.1)))); (case side2 => exact (Kd.R_reads' O155.out).2.1); (case side3 => refine (Kd.R_reads' (e := 5) (base := w.heap.size) (ok := fun k_ => (((True ∧ some k_ ≠ (J Ao148 t136.length co148 : Value).ownBlock) ∧ some k_ ≠ (J Ao149 t144.length co149 : Value).ownBlock) ∧ some k_ ≠ (J Ao157 t153.length co157 : Value).ownBlock)) (n := t162.length) (c := co165) ?_).2.2; exact (by (with_reducible repeat (first | apply ra | apply rN | apply rd1)); exact (Kd.R_mono (rf (p := ⟨g165, 5, none⟩) (rf (p := ⟨g165, 4, none⟩) (rf (p := ⟨g165, 3, none⟩) (rf (p := ⟨g165, 2, none⟩) (rf (p := ⟨g165, 1, none⟩) (rf (p := ⟨g165, 0, none⟩) (Kd.R_types O164.out B165.out (by decide)) (fun _ hk => hk.2) (I q t157)) (fun _ hk => hk.2) (I q t158)) (fun _ hk => hk.2) (I q t159)) (fun _ hk => hk.2) (I q t160)) (fun _ hk => hk.2) (I q t161)) (fun _ hk => hk.2) (J Ao165 t162.length co165)) (fun _ h_ => h_.1)))); (case side4 => exact (Kd.R_reads' O164.out).2.1); rintro e w167 ⟨rfl, hb⟩; refine ⟨_, rfl, ?_⟩; have N0 := am (rb (by (with_reducible repeat (first | apply ra | apply rN | apply rd1)); exact (Kd.R_mono (rf (p := ⟨g165, 5, none⟩) (rf (p := ⟨g165, 4, none⟩) (rf (p := ⟨g165, 3, none⟩) (rf (p := ⟨g165, 2, none⟩) (rf (p := ⟨g165, 1, none⟩) (rf (p := ⟨g165, 0, none⟩) (Kd.R_types O138.out B165.out (by decide)) (fun _ hk => hk.2) (I q t157)) (fun _ hk => hk.2) (I q t158)) (fun _ hk => hk.2) (I q t159)) (fun _ hk => hk.2) (I q t160)) (fun _ hk => hk.2) (I q t161)) (fun _ hk => hk.2) (J Ao165 t162.length co165)) (fun _ h_ => h_.1))) hb); have N1 := am (rb (by (with_reducible repeat (first | apply ra | apply rN | apply rd1)); exact (Kd.R_mono (rf (p := ⟨g165, 5, none⟩) (rf (p := ⟨g165, 4, none⟩) (rf (p := ⟨g165, 3, none⟩) (rf (p := ⟨g165, 2, none⟩) (rf (p := ⟨g165, 1, none⟩) (rf (p := ⟨g165, 0, none⟩) (Kd.R_types O146.out B165.out (by decide)) (fun _ hk => hk.2) (I q t157)) (fun _ hk => hk.2) (I q t158)) (fun _ hk => hk.2) (I q t159)) (fun _ hk => hk.2) (I q t160)) (fun _ hk => hk.2) (I q t161)) (fun _ hk => hk.2) (J Ao165 t162.length co165)) (fun _ h_ => h_.1))) hb); have N2 := am (rb (by (with_reducible repeat (first | apply ra | apply rN | apply rd1)); exact (Kd.R_mono (rf (p := ⟨g165, 5, none⟩) (rf (p := ⟨g165, 4, none⟩) (rf (p := ⟨g165, 3, none⟩) (rf (p := ⟨g165, 2, none⟩) (rf (p := ⟨g165, 1, none⟩) (rf (p := ⟨g165, 0, none⟩) (Kd.R_types O155.out B165.out (by decide)) (fun _ hk => hk.2) (I q t157)) (fun _ hk => hk.2) (I q t158)) (fun _ hk => hk.2) (I q t159)) (fun _ hk => hk.2) (I q t160)) (fun _ hk => hk.2) (I q t161)) (fun _ hk => hk.2) (J Ao165 t162.length co165)) (fun _ h_ => h_.1))) hb); have N3 := am (rb (by (with_reducible repeat (first | apply ra | apply rN | apply rd1)); exact (Kd.R_mono (rf (p := ⟨g165, 5, none⟩) (rf (p := ⟨g165, 4, none⟩) (rf (p := ⟨g165, 3, none⟩) (rf (p := ⟨g165, 2, none⟩) (rf (p := ⟨g165, 1, none⟩) (rf (p := ⟨g165, 0, none⟩) (Kd.R_types O164.out B165.out (by decide)) (fun _ hk => hk.2) (I q t157)) (fun _ hk => hk.2) (I q t158)) (fun _ hk => hk.2) (I q t159)) (fun _ hk => hk.2) (I q t160)) (fun _ hk => hk.2) (I q t161)) (fun _ hk => hk.2) (J Ao165 t162.length co165)) (fun _ h_ => h_.1))) hb); have N4 := am (bb (g := g127) (o := .cells #[I q aa0, I q aa1, I q aa2, I q aa3, I q aa4, J Aa5 la5.length ca5] 24 (0, 0)) (by (with_reducible repeat (first | apply bN | apply bd | apply ba)); refine bq ?_ NB127_165.out _; (with_reducible repeat (first | apply bN | apply bd | apply ba)); refine bq ?_ NB127_165.out _; (with_reducible repeat (first | apply bN | apply bd | apply ba)); refine bq ?_ NB127_165.out _; (with_reducible repeat (first | apply bN | apply bd | apply ba)); refine bq ?_ NB127_165.out _; (with_reducible repeat (first | apply bN | apply bd | apply ba)); refine bq ?_ NB127_165.out _; (with_reducible repeat (first | apply bN | apply bd | apply ba)); refine bq ?_ NB127_165.out _; (with_reducible repeat (first | apply bN | apply bd | apply ba)); exact B127.out) hb); have N5 := am (bb (g := g128) (o := .cells #[I q ab0, I q ab1, I q ab2, I q ab3, I q ab4, J Ab5 lb5.length cb5] 24 (0, 0)) (by (with_reducible repeat (first | apply bN | apply bd | apply ba)); refine bq ?_ NB128_165.out _; (with_reducible repeat (first | apply bN | apply bd | apply ba)); refine bq ?_ NB128_165.out _; (with_reducible repeat (first | apply bN | apply bd | apply ba)); refine bq ?_ NB128_165.out _; (with_reducible repeat (first | apply bN | apply bd | apply ba)); refine bq ?_ NB128_165.out _; (with_reducible repeat (first | apply bN | apply bd | apply ba)); refine bq ?_ NB128_165.out _; (with_reducible repeat (first | apply bN | apply bd | apply ba)); refine bq ?_ NB128_165.out _; (with_reducible repeat (first | apply bN | apply bd | apply ba)); exact B128.out) hb); have N6 := am (bb (g := g156) (o := .cells #[I q t148, I q t149, I q t150, I q t151, I q t152, J Ao157 t153.length co157] 27 (0, 0)) (by (with_reducible repeat (first | apply bN | apply bd | apply ba)); refine bq ?_ NB156_165.out _; (with_reducible repeat (first | apply bN | apply bd | apply ba)); refine bq ?_ NB156_165.out _; (with_reducible repeat (first | apply bN | apply bd | apply ba)); refine bq ?_ NB156_165.out _; (with_reducible repeat (first | apply bN | apply bd | apply ba)); refine bq ?_ NB156_165.out _; (with_reducible repeat (first | apply bN | apply bd | apply ba)); refine bq ?_ NB156_165.out _; (with_reducible repeat (first | apply bN | apply bd | apply ba)); refine bq ?_ NB156_165.out _; (with_reducible repeat (first | apply bN | apply bd | apply ba)); exact B156.out) hb); have N7 := am (bb (g := g165) (o := .cells #[I q t157, I q t158, I q t159, I q t160, I q t161, J Ao165 t162.length co165] 27 (0, 0)) (by (with_reducible repeat (first | apply bN | apply bd | apply ba)); refine blk_put (cs := #[I q t157, I q t158, I q t159, I q t160, I q t161, .slice none 0 0]) ?_ 5 _ rfl; (with_reducible repeat (first | apply bN | apply bd | apply ba)); refine blk_put (cs := #[I q t157, I q t158, I q t159, I q t160, I q 0, .slice none 0 0]) ?_ 4 _ rfl; (with_reducible repeat (first | apply bN | apply bd | apply ba)); refine blk_put (cs := #[I q t157, I q t158, I q t159, I q 0, I q 0, .slice none 0 0]) ?_ 3 _ rfl; (with_reducible repeat (first | apply bN | apply bd | apply ba)); refine blk_put (cs := #[I q t157, I q t158, I q 0, I q 0, I q 0, .slice none 0 0]) ?_ 2 _ rfl; (with_reducible repeat (first | apply bN | apply bd | apply ba)); refine blk_put (cs := #[I q t157, I q 0, I q 0, I q 0, I q 0, .slice none 0 0]) ?_ 1 _ rfl; (with_reducible repeat (first | apply bN | apply bd | apply ba)); refine blk_put (cs := #[I q 0, I q 0, I q 0, I q 0, I q 0, .slice none 0 0]) ?_ 0 _ rfl; (with_reducible repeat (first | apply bN | apply bd | apply ba)); exact B165.out) hb); have N8 := am (bp (by repeat (first | (with_reducible first | exact HB.out | apply pa | apply pN | apply p1 | refine bs ?_ E127.out | refine bs ?_ E128.out | refine bs ?_ E156.out | refine bs ?_ E165.out) | exact HB.out)) hb); clear O138 O146 O155 O164 B127 B128 B156 B165 HB; have O138 := N0; have O146 := N1; have O155 := N2; have O164 := N3; have B127 := N4; have B128 := N5; have B156 := N6; have B165 := N7; have HB := N8; clear N0 N1 N2 N3 N4 N5 N6 N7 N8; (try clear hb); (try clear hb2); (try clear hk); (try clear hi)))
          have N0 := am (rd1 O138.out)
          have N1 := am (rd1 O146.out)
          have N2 := am (rd1 O155.out)
          have N3 := am (rd1 O164.out)
          have N4 := am (bd B127.out)
          have N5 := am (bd B128.out)
          have N6 := am (bd B156.out)
          have N7 := am (bd B165.out)
          have N8 := am (p1 HB.out)
          clear O138
          clear O146
          clear O155
          clear O164
          clear B127
          clear B128
          clear B156
          clear B165
          clear HB
          have O138 := N0
          have O146 := N1
          have O155 := N2
          have O164 := N3
          have B127 := N4
          have B128 := N5
          have B156 := N6
          have B165 := N7
          have HB := N8
          clear N0 N1 N2 N3 N4 N5 N6 N7 N8
          refine start_ (n := 5) (S := fun w' => w'.cell? ⟨g156, 0, none⟩ = some (I q t148) ∧ w'.cell? ⟨g156, 1, none⟩ = some (I q t149) ∧ w'.cell? ⟨g156, 2, none⟩ = some (I q t150) ∧ w'.cell? ⟨g156, 3, none⟩ = some (I q t151) ∧ w'.cell? ⟨g156, 4, none⟩ = some (I q t152) ∧ w'.cell? ⟨g156, 5, none⟩ = some (J Ao157 t153.length co157) ∧ w'.cell? ⟨g127, 0, none⟩ = some (I q aa0) ∧ w'.cell? ⟨g127, 1, none⟩ = some (I q aa1) ∧ w'.cell? ⟨g127, 2, none⟩ = some (I q aa2) ∧ w'.cell? ⟨g127, 3, none⟩ = some (I q aa3) ∧ w'.cell? ⟨g127, 4, none⟩ = some (I q aa4) ∧ w'.cell? ⟨g127, 5, none⟩ = some (J Aa5 la5.length ca5)) (ds := []) #[false, false, false, false, false] (by kernel_rfl) rfl rfl ⟨(bc B156.out 0).trans rfl, (bc B156.out 1).trans rfl, (bc B156.out 2).trans rfl, (bc B156.out 3).trans rfl, (bc B156.out 4).trans rfl, (bc B156.out 5).trans rfl, (bc B127.out 0).trans rfl, (bc B127.out 1).trans rfl, (bc B127.out 2).trans rfl, (bc B127.out 3).trans rfl, (bc B127.out 4).trans rfl, (bc B127.out 5).trans rfl⟩ (fun hHeld => ?_)
          generalize w167.drew = w168 at O138 O146 O155 O164 B127 B128 B156 B165 HB hHeld ⊢
          refine take_ (i := 0) (N := some 35) (v := ?_) (a' := ?_) #[true, false, false, false, false] rfl rfl (by kernel_rfl) (fun _ _ _ h => h) (Or.inl ⟨by rfl, ?_⟩) hHeld ?_ ?_
          rotate_left
          · rintro w' ⟨s0, s1, s2, s3, s4, s5, s6, s7, s8, s9, s10, s11⟩
            go_simp
            with_reducible rfl
          rotate_left
          · simp only [Act.put, List.setIfInBounds_toArray, List.set_cons_zero, List.set_cons_succ, i64_w, i32_w]
            rfl
          refine take_ (i := 1) (N := some 36) (v := ?_) (a' := ?_) #[true, true, false, false, false] rfl rfl (by kernel_rfl) (fun _ _ _ h => h) (Or.inl ⟨by rfl, ?_⟩) hHeld ?_ ?_
          rotate_left
          · rintro w' ⟨s0, s1, s2, s3, s4, s5, s6, s7, s8, s9, s10, s11⟩
            go_simp
            with_reducible rfl
          rotate_left
          · simp only [Act.put, List.setIfInBounds_toArray, List.set_cons_zero, List.set_cons_succ, i64_w, i32_w]
            rfl
          refine one_ (i := 2) (N := some 37) #[true, true, true, false, false] rfl rfl (by kernel_rfl) (by decide) (fun K hK => ?_)
          refine goes_ Try.func17 (by kernel_rfl) rfl #[.agg #[I q aa0, I q aa1, I q aa2, I q aa3, I q aa4, J Aa5 la5.length ca5]] (by rfl) rfl rfl (by (try simp only [List.map_toArray, List.map_cons, List.map_nil]); first | done | rfl | (simp only [List.length_drop, List.length_take]; rfl)) ?_
          with_reducible refine (laws_toPacket.calls k aa0 aa1 aa2 aa3 aa4 _ _ la5 t167 t168 t169 t170 t171 t172 _ ?side1 ?side2 A56.out).mono ?_
          (case side1 => repeat (first | exact (Kd.C_below HR0_5.out HB.out) | (with_reducible refine ca ?_ _) | (with_reducible refine cN ?_ _) | (with_reducible refine cd1 ?_)))
          (case side2 => exact HC0_5.out)
          rintro e w169 ⟨v173, rfl, ho0, hb⟩
          refine ⟨_, rfl, ?_⟩
          have N0 := am (re (by (with_reducible repeat (first | apply ra | apply rN | apply rd1)); exact O138.out) (Kd.R_base ho0) hb)
          have N1 := am (re (by (with_reducible repeat (first | apply ra | apply rN | apply rd1)); exact O146.out) (Kd.R_base ho0) hb)
          have N2 := am (re (by (with_reducible repeat (first | apply ra | apply rN | apply rd1)); exact O155.out) (Kd.R_base ho0) hb)
          have N3 := am (re (by (with_reducible repeat (first | apply ra | apply rN | apply rd1)); exact O164.out) (Kd.R_base ho0) hb)
          have N4 := am (rw1 (rn (rn (rn (rn ho0 (rl (by (with_reducible repeat (first | apply ra | apply rN | apply rd1)); exact O138.out))) (rl (by (with_reducible repeat (first | apply ra | apply rN | apply rd1)); exact O146.out))) (rl (by (with_reducible repeat (first | apply ra | apply rN | apply rd1)); exact O155.out))) (rl (by (with_reducible repeat (first | apply ra | apply rN | apply rd1)); exact O164.out))) (bz (by repeat (first | (with_reducible first | exact HB.out | apply pa | apply pN | apply p1 | refine bs ?_ E127.out | refine bs ?_ E128.out | refine bs ?_ E156.out | refine bs ?_ E165.out) | exact HB.out))))
          have N5 := am (bb (g := g127) (o := .cells #[I q aa0, I q aa1, I q aa2, I q aa3, I q aa4, J Aa5 la5.length ca5] 24 (0, 0)) (by (with_reducible repeat (first | apply bN | apply bd | apply ba)); exact B127.out) hb)
          have N6 := am (bb (g := g128) (o := .cells #[I q ab0, I q ab1, I q ab2, I q ab3, I q ab4, J Ab5 lb5.length cb5] 24 (0, 0)) (by (with_reducible repeat (first | apply bN | apply bd | apply ba)); exact B128.out) hb)
          have N7 := am (bb (g := g156) (o := .cells #[I q t148, I q t149, I q t150, I q t151, I q t152, J Ao157 t153.length co157] 27 (0, 0)) (by (with_reducible repeat (first | apply bN | apply bd | apply ba)); exact B156.out) hb)
          have N8 := am (bb (g := g165) (o := .cells #[I q t157, I q t158, I q t159, I q t160, I q t161, J Ao165 t162.length co165] 27 (0, 0)) (by (with_reducible repeat (first | apply bN | apply bd | apply ba)); exact B165.out) hb)
          have N9 := am (bp (by repeat (first | (with_reducible first | exact HB.out | apply pa | apply pN | apply p1 | refine bs ?_ E127.out | refine bs ?_ E128.out | refine bs ?_ E156.out | refine bs ?_ E165.out) | exact HB.out)) hb)
          clear O138
          clear O146
          clear O155
          clear O164
          clear B127
          clear B128
          clear B156
          clear B165
          clear HB
          have O138 := N0
          have O146 := N1
          have O155 := N2
          have O164 := N3
          have O174 := N4
          have B127 := N5
          have B128 := N6
          have B156 := N7
          have B165 := N8
          have HB := N9
          clear N0 N1 N2 N3 N4 N5 N6 N7 N8 N9
          (try clear hb)
          (try clear hb2)
          (try clear hk)
          (try clear hi)
          (try clear ho0)
          obtain ⟨Ao170, co170, eo170⟩ := Kd.R_slice O174.out
          (first | subst eo170 | (injection eo170 with f1_ f2_ f3_; have f4_ := f1_.symm; have f5_ := f3_.symm; clear f1_ f2_ f3_; subst f4_; subst f5_))
          refine hK.out _ _ ⟨(bc B156.out 0).trans rfl, (bc B156.out 1).trans rfl, (bc B156.out 2).trans rfl, (bc B156.out 3).trans rfl, (bc B156.out 4).trans rfl, (bc B156.out 5).trans rfl, (bc B127.out 0).trans rfl, (bc B127.out 1).trans rfl, (bc B127.out 2).trans rfl, (bc B127.out 3).trans rfl, (bc B127.out 4).trans rfl, (bc B127.out 5).trans rfl⟩ (fun hHeld => ?_)
          clear hK K
          refine norm_ (a' := ?_) ?_ ?_
          rotate_left
          · show Act.put _ (some 37) _ = _
            simp only [Act.put, List.setIfInBounds_toArray, List.set_cons_zero, List.set_cons_succ, i64_w, i32_w]
            rfl
          refine one_ (i := 3) (N := some 38) #[true, true, true, true, false] rfl rfl (by kernel_rfl) (by decide) (fun K hK => ?_)
          refine goes_ Try.func19 (by kernel_rfl) rfl #[.agg #[I q t148, I q t149, I q t150, I q t151, I q t152, J Ao157 t153.length co157], .agg #[I q t167, I q t168, I q t169, I q t170, I q t171, J Ao170 t172.length co170]] (by rfl) rfl rfl (by (try simp only [List.map_toArray, List.map_cons, List.map_nil]); first | done | rfl | (simp only [List.length_drop, List.length_take]; rfl)) ?_
          with_reducible refine (laws_eqPacket.calls k t148 t149 t150 t151 t152 _ _ t153 t167 t168 t169 t170 t171 _ _ t172 false _ ?side1 ?side2 ?side3 ?side4 A57.out).mono ?_
          (case side1 => repeat (first | exact (Kd.R_reads' O155.out).2.2 | (with_reducible refine ca ?_ _) | (with_reducible refine cN ?_ _) | (with_reducible refine cd1 ?_)))
          (case side2 => exact (Kd.R_reads' O155.out).2.1)
          (case side3 => repeat (first | exact (Kd.R_reads' O174.out).2.2 | (with_reducible refine ca ?_ _) | (with_reducible refine cN ?_ _) | (with_reducible refine cd1 ?_)))
          (case side4 => exact (Kd.R_reads' O174.out).2.1)
          rintro e w171 ⟨rfl, hb⟩
          refine ⟨_, rfl, ?_⟩
          have N0 := am (rb (by (with_reducible repeat (first | apply ra | apply rN | apply rd1)); exact O138.out) hb)
          have N1 := am (rb (by (with_reducible repeat (first | apply ra | apply rN | apply rd1)); exact O146.out) hb)
          have N2 := am (rb (by (with_reducible repeat (first | apply ra | apply rN | apply rd1)); exact O155.out) hb)
          have N3 := am (rb (by (with_reducible repeat (first | apply ra | apply rN | apply rd1)); exact O164.out) hb)
          have N4 := am (rb (by (with_reducible repeat (first | apply ra | apply rN | apply rd1)); exact O174.out) hb)
          have N5 := am (bb (g := g127) (o := .cells #[I q aa0, I q aa1, I q aa2, I q aa3, I q aa4, J Aa5 la5.length ca5] 24 (0, 0)) (by (with_reducible repeat (first | apply bN | apply bd | apply ba)); exact B127.out) hb)
          have N6 := am (bb (g := g128) (o := .cells #[I q ab0, I q ab1, I q ab2, I q ab3, I q ab4, J Ab5 lb5.length cb5] 24 (0, 0)) (by (with_reducible repeat (first | apply bN | apply bd | apply ba)); exact B128.out) hb)
          have N7 := am (bb (g := g156) (o := .cells #[I q t148, I q t149, I q t150, I q t151, I q t152, J Ao157 t153.length co157] 27 (0, 0)) (by (with_reducible repeat (first | apply bN | apply bd | apply ba)); exact B156.out) hb)
          have N8 := am (bb (g := g165) (o := .cells #[I q t157, I q t158, I q t159, I q t160, I q t161, J Ao165 t162.length co165] 27 (0, 0)) (by (with_reducible repeat (first | apply bN | apply bd | apply ba)); exact B165.out) hb)
          have N9 := am (bp (by repeat (first | (with_reducible first | exact HB.out | apply pa | apply pN | apply p1 | refine bs ?_ E127.out | refine bs ?_ E128.out | refine bs ?_ E156.out | refine bs ?_ E165.out) | exact HB.out)) hb)
          clear O138
          clear O146
          clear O155
          clear O164
          clear O174
          clear B127
          clear B128
          clear B156
          clear B165
          clear HB
          have O138 := N0
          have O146 := N1
          have O155 := N2
          have O164 := N3
          have O174 := N4
          have B127 := N5
          have B128 := N6
          have B156 := N7
          have B165 := N8
          have HB := N9
          clear N0 N1 N2 N3 N4 N5 N6 N7 N8 N9
          (try clear hb)
          (try clear hb2)
          (try clear hk)
          (try clear hi)
          refine hK.out _ _ ⟨(bc B156.out 0).trans rfl, (bc B156.out 1).trans rfl, (bc B156.out 2).trans rfl, (bc B156.out 3).trans rfl, (bc B156.out 4).trans rfl, (bc B156.out 5).trans rfl, (bc B127.out 0).trans rfl, (bc B127.out 1).trans rfl, (bc B127.out 2).trans rfl, (bc B127.out 3).trans rfl, (bc B127.out 4).trans rfl, (bc B127.out 5).trans rfl⟩ (fun hHeld => ?_)
          clear hK K
          refine norm_ (a' := ?_) ?_ ?_
          rotate_left
          · show Act.put _ (some 38) _ = _
            simp only [Act.put, List.setIfInBounds_toArray, List.set_cons_zero, List.set_cons_succ, i64_w, i32_w]
            rfl
          refine pure_ (i := 4) (N := some 39) (v := ?_) (a' := ?_) #[true, true, true, true, true] rfl rfl (by kernel_rfl) (fun _ _ _ h => h) (Or.inl ⟨by rfl, ?_⟩) ?_ ?_
          rotate_left
          · intro w'
            first | (go_simp; with_reducible rfl) | (go_simp; (try unfold Instr.field); go_simp; (try simp only [asAgg]); go_simp; with_reducible rfl)
          rotate_left
          · simp only [Act.put, List.setIfInBounds_toArray, List.set_cons_zero, List.set_cons_succ, i64_w, i32_w]
            rfl
          refine done_ (by kernel_rfl) ?_
          try go_wp2
          go_ret
          exact ⟨by first | rfl | (simp [errW_none, errW_some] <;> rfl) | (simp [*, errW_none, errW_some] <;> rfl), by repeat (first | (with_reducible first | exact HB.out | apply pa | apply pN | apply p1 | refine bs ?_ E127.out | refine bs ?_ E128.out | refine bs ?_ E156.out | refine bs ?_ E165.out) | exact HB.out)⟩

end Go.Proofs.Ytaellhlkjjooiaa.QFnExactSamePacket
