-- MADE BY PROGRAM (wip/dr/assemble2.py) out of walks by hand. Lean checks it.
import Derived.Test.YtfmlhpoaipeoeaaQFnDeltasyd
import Derived.Test.YtfmlhpoaipeoeaaIx
import Derived.StillTailTactics
namespace Go.Proofs.Ytfmlhpoaipeoeaa.QFnDeltas
open Go.RowKit Go.Proofs.YtfmlhpoaipeoeaaW.PrintWords Go.Proofs.YtfmlhpoaipeoeaaW.PrintLast Go.Proofs.YtfmlhpoaipeoeaaW.PrintMore
attribute [local go_sem] max2_int min2_int max_two min_two max_three min_three max_four min_four   -- for this text's walks alone
set_option linter.unusedVariables false
set_option linter.unusedSimpArgs false
namespace Dr
theorem RR_take {α : Type} {R : α → List Value → Prop} {sz : Nat} {w : World} {A : Option Addr} {xs : List α} {m : Nat} (h : ReadsRow R sz w A xs.length xs) (hm : m ≤ xs.length) : ReadsRow R sz w A m (xs.take m) := by
 have hl : (xs.take m).length = m := by rw [List.length_take]; omega
 refine ⟨hl, by have := h.2.1; omega, fun hp => ?_⟩
 obtain ⟨ad, e, hc⟩ := h.2.2 (by omega)
 refine ⟨ad, e, fun j p hj => hc j p ?_⟩
 rw [List.getElem?_take] at hj
 split at hj
 ·exact hj
 ·cases hj
theorem RR_drop {α : Type} {R : α → List Value → Prop} {sz : Nat} {w : World} {A : Option Addr} {xs : List α} {m c : Nat} (h : ReadsRow R sz w A xs.length xs) (hm : m ≤ xs.length) (hc : xs.length ≤ c) : ReadsRow R sz w (if c = m then A else A.map (·.add (m * sz))) (xs.length - m) (xs.drop m) := by
 have hl : (xs.drop m).length = xs.length - m := List.length_drop
 refine ⟨hl, by have := h.2.1; omega, fun hp => ?_⟩
 obtain ⟨ad, rfl, hcell⟩ := h.2.2 (by omega)
 rw [if_neg (by omega)]
 refine ⟨ad.add (m * sz), rfl, fun j p hj => ?_⟩
 rw [List.getElem?_drop] at hj
 obtain ⟨cs, h1, h2, h3⟩ := hcell (m + j) p hj
 refine ⟨cs, h1, h2, fun i u hu => ?_⟩
 rw [add_add, show m * sz + (j * sz + i) = (m + j) * sz + i by rw [Nat.add_mul]; omega]
 exact h3 i u hu
theorem readsM {α : Type} {d : Kd α} {e : Nat} {w : World} {base : Nat} {ok : Nat → Prop} {A : Option Addr} {n c : Nat} {xs : List α} (h : d.R e w base ok (.slice A n c) xs) : ReadsRow (d.M w base (fun k => ok k ∧ some k ≠ (Value.slice A n c).ownBlock)) d.sz w A xs.length xs := by
 obtain ⟨A', c', he, _, hr⟩ := OwnRow.reads h.2
 injection he with e1 e2 e3
 subst e1
 exact hr
theorem readsO {α : Type} {d : Kd α} {e : Nat} {w : World} {base : Nat} {ok : Nat → Prop} {A : Option Addr} {n c : Nat} {xs : List α} (h : d.R e w base ok (.slice A n c) xs) : ReadsRow (d.M w base (fun k => k < w.heap.size)) d.sz w A xs.length xs :=
 ReadsRow.imp_ (readsM h) (Below.refl _ _) (fun _ _ hp => d.M_mono (fun _ hk => hk.2.2.1) (d.M_bound hp))
theorem cutdropM {P : Program} {α : Type} {R : α → List Value → Prop} {sz : Nat} {w : World} {A : Option Addr} {c : Nat} {xs : List α} (h : ReadsRow R sz w A xs.length xs) (hc : xs.length ≤ c) (m : Nat) (hm : m ≤ xs.length) (t e : TypeId) {i : TypeInfo} (ht : P.underlying t = some (.slice e)) (hi : P.info? e = some i) (hsz : i.size = sz) :
  ∃ A2, (∀ W : World, (Instr.slice t (.slice A xs.length c) (some (.int .i64 (m : Int))) none none).run P W = .ok (.slice A2 (xs.length - m) (c - m)) W) ∧ ReadsRow R sz w A2 (xs.length - m) (xs.drop m) := by
 refine ⟨_, fun W => ?_, RR_drop h hm hc⟩
 have := cut_from (P := P) t e .i64 ht hi sz hsz A xs.length c (m : Int) (by omega) (by omega) W
 simpa using this
theorem rise_len (n : Int) (l : List Int) : (Dl.rise n l).length ≤ l.length + 1 := by
 unfold Dl.rise
 split
 ·omega
 ·rw [List.length_append, List.length_cons, List.length_take, List.length_drop]
  have := Dl.rk_le n l
  omega
theorem rise_own {n : Int} {l : List Int} {base : Nat} {w w' : World} {A : Option Addr} {c : Nat} {u : Value} (hR : Kd.R (Kd.int .i64) 2 w base (fun _ => True) (.slice A l.length c) l) (hb : Below w.heap.size w w') (hs : base ≤ w.heap.size)
  (h : (u = .slice A l.length c ∧ Dl.rise n l = l) ∨ Kd.R (Kd.int .i64) 2 w' w.heap.size (fun _ => True) u (Dl.rise n l)) : Kd.R (Kd.int .i64) 2 w' base (fun _ => True) u (Dl.rise n l) := by
 rcases h with ⟨rfl, e⟩ | h
 ·rw [e]; exact Kd.R_below hR hb
 ·exact Kd.R_lower h hs
/-- An element's names written. -/
theorem put64 {base : Nat} {W : World} {g2 cap : Nat} {l2 : List S64} {ok : Nat → Prop} (h : Kd.R k64 64 W base (fun _ => True) (.slice (some ⟨g2, 0, none⟩) l2.length cap) l2) (kk : Nat) (hk : kk < l2.length) (u : Value) (ns : List Int) (hu : Kd.R (Kd.int .i64) 2 W base ok u ns) (y : S64) (hy : y = l2.getD kk z64) :
  Kd.R k64 64 (W.setCell ⟨g2, kk * 4 + 3, none⟩ u) base (fun _ => True) (.slice (some ⟨g2, 0, none⟩) (l2.set kk ⟨y.f0, y.f1, y.f2, ns⟩).length cap) (l2.set kk ⟨y.f0, y.f1, y.f2, ns⟩) ∧ W.grownBy (W.setCell ⟨g2, kk * 4 + 3, none⟩ u) (some g2) := by
 subst hy
 obtain ⟨c, hcl, hM, hcc, hfr⟩ := Kd.R_elem h z64 (kk : Int) (by omega) (by omega)
 rw [Int.toNat_natCast] at hM
 obtain ⟨v3, ec, _⟩ := k64_openM hM
 obtain ⟨cells, hg2⟩ := Kd.R_typed h g2 (by simp [Value.ownBlock])
 have hs := Kd.R_seg (okp := fun k => k ≠ g2) h (kk : Int) (by omega) (by omega) (seg := [u]) (j := 3) hcl hcc (show 3 + 1 ≤ 4 by omega) (x' := ⟨(l2.getD kk z64).f0, (l2.getD kk z64).f1, (l2.getD kk z64).f2, ns⟩)
  (by rw [ec]; exact k64_mkM W base _ (⟨(l2.getD kk z64).f0, (l2.getD kk z64).f1, (l2.getD kk z64).f2, ns⟩ : S64) (Kd.R_mono (Kd.R_types hu hg2 (by decide)) (fun _ hk => hk.2))) (fun _ hk => ⟨trivial, hk⟩)
 rw [Int.toNat_natCast, show (W.setCells g2 (kk * k64.sz + 3) [u]) = W.setCell ⟨g2, kk * 4 + 3, none⟩ u from rfl] at hs
 rw [List.length_set]
 exact hs
theorem St.row2 {w0 w w' : World} {g : Nat} {v : Int} {s1 s2 : Value} {l1 : List S36} {l2 : List S64} (h : St w0 w g v s1 s2 l1 l2) {l2' : List S64} {s2' : Value} (hs : s2' = s2) (hR : Kd.R k64 64 w' w0.heap.size (fun _ => True) s2' l2') (hg : w.grownBy w' s2.ownBlock) : St w0 w' g v s1 s2' l1 l2' := by
 subst hs
 obtain ⟨h1, h2, h3, h4, h5⟩ := h
 refine ⟨h1.grown hg h1.size (Kd.R_base h5), h2, ?_, Kd.R_over' h4 (Kd.R_typed h5) (by decide) hg, hR⟩
 have hlt : g < w.heap.size := blk_lt h3
 rw [hg.block g hlt (Kd.R_ne h5 h3 (by decide))]
 exact h3
theorem St.new2 {w0 w : World} {g : Nat} {v : Int} {s1 s2 : Value} {l1 : List S36} {l2 : List S64} (h : St w0 w g v s1 s2 l1 l2) {l2' : List S64} {s2' : Value} (hR : Kd.R k64 64 w w0.heap.size (fun _ => True) s2' l2') : St w0 (w.setCell ⟨g, 2, none⟩ s2') g v s1 s2' l1 l2' := by
 obtain ⟨h1, h2, h3, h4, h5⟩ := h
 exact ⟨below_set h1 h2, h2, blk_put (cs := #[.int .i64 v, s1, s2]) h3 2 _ rfl, Kd.R_set h4 h3 (by decide) 2 _, Kd.R_set hR h3 (by decide) 2 _⟩
theorem has' {A : Option Addr} {c : Nat} {l : List Int} (a : Int) {w : World} (hr : Kd.C (Kd.int .i64) w A l.length l) (hc : l.length ≤ c) : ∃ b, ∀ W, Below w.heap.size w W → Calls Try.prog 159 #[.slice A l.length c, .int .i64 a] W fun e w' => e = .returned (.bool b) ∧ Below W.heap.size W w' := by
 obtain ⟨b, hb⟩ := has_tot l a (bigI hr)
 exact ⟨b, fun W hW => (spec_l1Has.calls _ A c l a b W (Kd.C_below hr hW) hc hb).mono (fun _ _ h => ⟨h.1, h.2.below⟩)⟩
/-- The same, and the vips' rows are none of a row. -/
def Sn (w0 w : World) (g : Nat) (v : Int) (s1 s2 : Value) (l1 : List S36) (l2 : List S64) (nv : Value) : Prop :=
 Below w0.heap.size w0 w ∧ w0.heap.size ≤ g ∧ w.heap[g]? = some (.cells #[.int .i64 v, s1, s2] 31 (0, 0)) ∧ Kd.R k36 36 w w0.heap.size (fun _ => True) s1 l1 ∧ Kd.R k64 64 w w0.heap.size (fun k => True ∧ some k ≠ nv.ownBlock) s2 l2
theorem Sn.st {w0 w : World} {g : Nat} {v : Int} {s1 s2 nv : Value} {l1 : List S36} {l2 : List S64} (h : Sn w0 w g v s1 s2 l1 l2 nv) : St w0 w g v s1 s2 l1 l2 := ⟨h.1, h.2.1, h.2.2.1, h.2.2.2.1, Kd.R_mono h.2.2.2.2 (fun _ _ => trivial)⟩
theorem Sn.below {w0 w w' : World} {g : Nat} {v : Int} {s1 s2 nv : Value} {l1 : List S36} {l2 : List S64} (h : Sn w0 w g v s1 s2 l1 l2 nv) (hb : Below w.heap.size w w') : Sn w0 w' g v s1 s2 l1 l2 nv :=
 ⟨up h.1 hb, h.2.1, blk_below h.2.2.1 hb, Kd.R_below h.2.2.2.1 hb, Kd.R_below h.2.2.2.2 hb⟩
theorem St.sn {w0 W w : World} {g : Nat} {v : Int} {s1 s2 nv : Value} {l1 : List S36} {l2 : List S64} (h : St w0 W g v s1 s2 l1 l2) (hb : Below W.heap.size W w) (hn : ∀ k, nv.ownBlock = some k → W.heap.size ≤ k) : Sn w0 w g v s1 s2 l1 l2 nv := by
 have h' := h.below hb
 refine ⟨h'.1, h'.2.1, h'.2.2.1, h'.2.2.2.1, ?_⟩
 exact Kd.R_elder' h.2.2.2.2 hn hb
/-- A row of numbers has grown. -/
theorem Sn.grow {w0 w w' : World} {g : Nat} {v : Int} {s1 s2 nv nv' : Value} {l1 : List S36} {l2 : List S64} {ns : List Int} (h : Sn w0 w g v s1 s2 l1 l2 nv) (hn : Kd.R (Kd.int .i64) 2 w w0.heap.size (fun _ => True) nv ns) (hg : w.grownBy w' nv.ownBlock) (hat : nv'.ownBlock = nv.ownBlock ∨ ∃ b, nv'.ownBlock = some b ∧ w.heap.size ≤ b) : Sn w0 w' g v s1 s2 l1 l2 nv' := by
 obtain ⟨h1, h2, h3, h4, h5⟩ := h
 refine ⟨h1.grown hg h1.size (Kd.R_base hn), h2, ?_, Kd.R_over' h4 (Kd.R_typed hn) (by decide) hg, Kd.R_after h5 hg hat⟩
 rw [hg.block g (blk_lt h3) (Kd.R_ne hn h3 (by decide))]
 exact h3
theorem blk_grow {w w' : World} {base g t : Nat} {cs : Array Value} {nv : Value} {ns : List Int} (h : w.heap[g]? = some (.cells cs t (0, 0))) (hn : Kd.R (Kd.int .i64) 2 w base (fun _ => True) nv ns) (ht : 2 ≠ t) (hg : w.grownBy w' nv.ownBlock) : w'.heap[g]? = some (.cells cs t (0, 0)) := by
 rw [hg.block g (blk_lt h) (Kd.R_ne hn h ht)]
 exact h
theorem cell_grow {w w' : World} {base g : Nat} {cap : Nat} {l2 : List S64} {ok : Nat → Prop} {n : Nat} {nv : Value} {ns : List Int} {j : Nat} {u : Value} (h : w.cell? ⟨g, j, none⟩ = some u) (h2 : Kd.R k64 64 w base ok (.slice (some ⟨g, 0, none⟩) n cap) l2) (hn : Kd.R (Kd.int .i64) 2 w base (fun _ => True) nv ns) (hg : w.grownBy w' nv.ownBlock) : w'.cell? ⟨g, j, none⟩ = some u := by
 obtain ⟨cells, hc⟩ := Kd.R_typed h2 g (by simp [Value.ownBlock])
 rw [World.cell?_of_block (w := w) (hg.block g (blk_lt hc) (Kd.R_ne hn hc (by decide)))]
 exact h
def VPost (w0 : World) (g : Nat) (v : Int) (s1 : Value) (l1 : List S36) (M : Nat) (e : Ending) (w' : World) : Prop := ∃ (r : Int) (s2' : Value) (l2' : List S64), e = .returned (.int .i64 r) ∧ St w0 w' g v s1 s2' l1 l2' ∧ l2'.length ≤ 4 ∧ ∀ y, y ∈ l2' → y.f3.length ≤ M + 1
theorem set_all {p : S64 → Prop} {l : List S64} {k : Nat} {z : S64} (h : ∀ y, y ∈ l → p y) (hz : p z) : ∀ y, y ∈ l.set k z → p y := by
 intro y hy
 rcases List.mem_or_eq_of_mem_set hy with h1 | rfl
 ·exact h y h1
 ·exact hz
end Dr
set_option maxHeartbeats 16000000 in
set_option maxRecDepth 100000 in
theorem spec_l5TurnVip.c5 (g : Nat) (v : Int) (s1 s2 : Value) (l1 : List S36) (l2 : List S64) (x0 x1 x2 x3 x4 x5 : Int) (M : Nat) (w0 w : World) (hS : Dr.St w0 w g v s1 s2 l1 l2) (hl : l2.length ≤ 4) (hM : M ≤ 1000) (hm : ∀ y, y ∈ l2 → y.f3.length ≤ M) (hx : x0 = 5) :
  Calls Try.prog 151 #[.pointer (some ⟨g, 0, none⟩), .agg #[.int .i64 x0, .int .i64 x1, .int .i64 x2, .int .i64 x3, .int .i64 x4, .int .i64 x5]] w fun e w' => Dr.VPost w0 g v s1 l1 M e w' := by
 have hx1 : (x0 == 5) = true := beq_iff_eq.mpr hx
 clear hx
 have hu31 := Try.underlying31
 have hu64 := Try.underlying64
 have hu128 := Try.underlying128
 obtain ⟨A1, c1, e1_⟩ := Kd.R_slice hS.2.2.2.1
 obtain ⟨A2, c2, e2_⟩ := Kd.R_slice hS.2.2.2.2
 subst e1_
 subst e2_
 have HM := Aside0.mk (show ∀ y, y ∈ l2 → y.f3.length ≤ M + 1 from fun y hy => Nat.le_succ_of_le (hm y hy))
 obtain ⟨w1, hw1⟩ : ∃ W, W = w.alloc (.cells #[.int .i64 x0, .int .i64 x1, .int .i64 x2, .int .i64 x3, .int .i64 x4, .int .i64 x5] 128) := ⟨_, rfl⟩
 have hB1 : Below w.heap.size w w1 := by rw [hw1]; exact (Below.refl _ w).alloc (Nat.le_refl _) _
 have bx1 : w1.heap[w.heap.size]? = some (.cells #[.int .i64 x0, .int .i64 x1, .int .i64 x2, .int .i64 x3, .int .i64 x4, .int .i64 x5] 128 (0, 0)) := by rw [hw1]; exact blk_new w _
 have HX := Aside0.mk bx1
 have HS := Aside0.mk (Dr.St.below hS hB1)
 clear hB1 bx1 hS
 have q0 := blk_cell HX.out 0
 have q1 := blk_cell HX.out 1
 have q2 := blk_cell HX.out 2
 have q3 := blk_cell HX.out 3
 have q4 := blk_cell HX.out 4
 have q5 := blk_cell HX.out 5
 rw [hw1] at q0 q1 q2 q3 q4 q5
 have hcall := spec_l5Find.cf g A1 l1.length c1 A2 c2 l2 v x0 x1 x2 x3 x4 x5 w1 HS.out.2.2.1 (Kd.R_reads' HS.out.2.2.2.2).2.2
 rw [hw1] at hcall
 go_enter Try.func151, Try.ntmps151
 go_wp2_with fail
 refine hcall.mono ?_
 rintro e_ w2 ⟨⟨r, rfl, hr⟩, hb2⟩
 rw [← hw1] at hb2
 have HS2 := Aside0.mk (Dr.St.below HS.out hb2)
 have HX2 := Aside0.mk (blk_below HX.out hb2)
 clear hcall hb2 HS HX q0 q1 q2 q3 q4 q5 hw1
 have z2 := blk_cell HS2.out.2.2.1 2
 have q0 := blk_cell HX2.out 0
 have q3 := blk_cell HX2.out 3
 have q4 := blk_cell HX2.out 4
 have q5 := blk_cell HX2.out 5
 by_cases hr0 : 0 ≤ r
 ·have hrd : decide (r ≥ 0) = true := decide_eq_true hr0
  go_wp2
  go_ret
  exact ⟨_, _, _, rfl, HS2.out, hl, HM.out⟩
 have hrd : decide (r ≥ 0) = false := decide_eq_false (by omega)
 by_cases h4 : 4 ≤ l2.length
 ·have hmd : decide ((l2.length : Int) ≥ 4) = true := decide_eq_true (by omega)
  go_wp2
  go_ret
  exact ⟨_, _, _, rfl, HS2.out, hl, HM.out⟩
 have hmd : decide ((l2.length : Int) ≥ 4) = false := decide_eq_false (by omega)
 obtain ⟨W7, hW7⟩ : ∃ W, W = w2.alloc (.cells #[.int .i64 x3, .int .i64 x4, .int .i64 x5, .slice none 0 0] 64) := ⟨_, rfl⟩
 go_wp2
 rw [← hW7]
 have hB7 : Below w2.heap.size w2 W7 := by rw [hW7]; exact (Below.refl _ w2).alloc (Nat.le_refl _) _
 have HV7 := Aside0.mk (show W7.heap[w2.heap.size]? = some (.cells #[.int .i64 x3, .int .i64 x4, .int .i64 x5, .slice none 0 0] 64 (0, 0)) from by rw [hW7]; exact blk_new w2 _)
 have HS7 := Aside0.mk (Dr.St.below HS2.out hB7)
 clear hB7 hW7 z2 q0 q3 q4 q5 HX2 HS2
 obtain ⟨g7, hg7⟩ : ∃ g7, g7 = w2.heap.size := ⟨_, rfl⟩
 rw [← hg7] at HV7 ⊢
 clear hg7
 go_loopg [7] l2.length (fun gg s7 wr => ∃ kk : Nat, kk ≤ l2.length ∧ l2.length - kk ≤ gg ∧ s7 = .int .i64 kk ∧ Aside0 (Dr.St w0 wr g v (.slice A1 l1.length c1) (.slice A2 l2.length c2) l1 l2) ∧ Aside0 (wr.heap[g7]? = some (.cells #[.int .i64 x3, .int .i64 x4, .int .i64 x5, .slice none 0 0] 64 (0, 0))))
 case atStart => exact ⟨0, Nat.zero_le _, by omega, rfl, HS7, HV7⟩
 case round =>
  clear HS7 HV7
  obtain ⟨kk, hkk, hg, rfl, HS3, HV3⟩ := hrel
  have HZ2 := Aside0.mk (blk_cell HS3.out.2.2.1 2)
  by_cases hlt : kk < l2.length
  ·have hltz : (kk : Int) < (l2.length : Int) := by omega
   have hltd : decide ((kk : Int) < (l2.length : Int)) = true := decide_eq_true hltz
   obtain ⟨ad, A3, c3, eA, hx_0, hx_1, hx_2, hx_3, hl3, hC3⟩ := at_T64 (Kd.R_reads' HS3.out.2.2.2.2).2.2 (kk : Int) (by omega) hltz
   cases eA
   generalize rd_T64 l2 (kk : Int) = y at hx_0 hx_1 hx_2 hx_3 hl3 hC3
   simp only [Int.toNat_natCast] at hx_0 hx_1 hx_2 hx_3
   have HX0 := Aside0.mk (And.intro hx_0 (And.intro hx_1 (And.intro hx_2 hx_3)))
   have hbeh := fun (W : World) (hW : Below wr.heap.size wr W) => spec_l5Behind.calls y.f0 y.f1 y.f2 A3 c3 y.f3 x3 x4 x5 none 0 [] (Cf.beh y ⟨x3, x4, x5, []⟩) W (Kd.C_below hC3 hW) hl3 ⟨rfl, by simp, fun h => absurd h (by simp)⟩ (Nat.le_refl _) (Cf.behind_is y ⟨x3, x4, x5, []⟩)
   clear hx_0 hx_1 hx_2 hx_3 hl3 hC3
   generalize Cf.beh y ⟨x3, x4, x5, []⟩ = bb at hbeh
   go_wp2
   have HS_ : ∀ W, Below wr.heap.size wr W → (W.cell? ⟨g, 2, none⟩ = some (.slice (some ad) l2.length c2) ∧ W.cell? (ad.add (kk * 4)) = some (.int .i64 y.f0) ∧ W.cell? ⟨(ad.add (kk * 4)).block, (ad.add (kk * 4)).off + 1, none⟩ = some (.int .i64 y.f1) ∧ W.cell? ⟨(ad.add (kk * 4)).block, (ad.add (kk * 4)).off + 2, none⟩ = some (.int .i64 y.f2) ∧ W.cell? ⟨(ad.add (kk * 4)).block, (ad.add (kk * 4)).off + 3, none⟩ = some (.slice A3 y.f3.length c3) ∧ W.cell? ⟨g7, 0, none⟩ = some (.int .i64 x3) ∧ W.cell? ⟨g7, 1, none⟩ = some (.int .i64 x4) ∧ W.cell? ⟨g7, 2, none⟩ = some (.int .i64 x5) ∧ W.cell? ⟨g7, 3, none⟩ = some (.slice none 0 0)) := fun W hW => ⟨pw_cell_below hW HZ2.out, pw_cell_below hW HX0.out.1, pw_cell_below hW HX0.out.2.1, pw_cell_below hW HX0.out.2.2.1, pw_cell_below hW HX0.out.2.2.2, pw_cell_below hW (blk_cell HV3.out 0), pw_cell_below hW (blk_cell HV3.out 1), pw_cell_below hW (blk_cell HV3.out 2), pw_cell_below hW (blk_cell HV3.out 3)⟩
   have hd : Below wr.heap.size wr wr.drew := below_drew1 (Below.refl _ _)
   refine start_ (n := 18) (S := fun w' => w'.cell? ⟨g, 2, none⟩ = some (.slice (some ad) l2.length c2) ∧ w'.cell? (ad.add (kk * 4)) = some (.int .i64 y.f0) ∧ w'.cell? ⟨(ad.add (kk * 4)).block, (ad.add (kk * 4)).off + 1, none⟩ = some (.int .i64 y.f1) ∧ w'.cell? ⟨(ad.add (kk * 4)).block, (ad.add (kk * 4)).off + 2, none⟩ = some (.int .i64 y.f2) ∧ w'.cell? ⟨(ad.add (kk * 4)).block, (ad.add (kk * 4)).off + 3, none⟩ = some (.slice A3 y.f3.length c3) ∧ w'.cell? ⟨g7, 0, none⟩ = some (.int .i64 x3) ∧ w'.cell? ⟨g7, 1, none⟩ = some (.int .i64 x4) ∧ w'.cell? ⟨g7, 2, none⟩ = some (.int .i64 x5) ∧ w'.cell? ⟨g7, 3, none⟩ = some (.slice none 0 0)) (ds := []) (Mk 18 0) (by kernel_rfl) rfl rfl (HS_ _ hd) (fun hHeld => ?_)
   generalize wr.drew = wd at hd hHeld ⊢
   refine pure_ (i := 0) (N := some 31) (v := ?_) (a' := ?_) (Mk 18 1) rfl rfl (by kernel_rfl) (fun _ _ _ h => h) (Or.inl ⟨by rfl, ?_⟩) ?_ ?_
   rotate_left
   ·intro w'
    first | (go_simp; with_reducible rfl) | (go_simp; (try unfold Instr.field); go_simp; (try simp only [asAgg]); go_simp; with_reducible rfl)
   rotate_left
   ·simp only [Act.put, List.setIfInBounds_toArray, List.set_cons_zero, List.set_cons_succ, i64_w, i32_w]
    rfl
   refine pure_ (i := 1) (N := some 32) (v := ?_) (a' := ?_) (Mk 18 3) rfl rfl (by kernel_rfl) (fun _ _ _ h => h) (Or.inl ⟨by rfl, ?_⟩) ?_ ?_
   rotate_left
   ·intro w'
    first | (go_simp; with_reducible rfl) | (go_simp; (try unfold Instr.field); go_simp; (try simp only [asAgg]); go_simp; with_reducible rfl)
   rotate_left
   ·simp only [Act.put, List.setIfInBounds_toArray, List.set_cons_zero, List.set_cons_succ, i64_w, i32_w]
    rfl
   refine pure_ (i := 2) (N := some 33) (v := ?_) (a' := ?_) (Mk 18 7) rfl rfl (by kernel_rfl) (fun _ _ _ h => h) (Or.inl ⟨by rfl, ?_⟩) ?_ ?_
   rotate_left
   ·intro w'
    first | (go_simp; with_reducible rfl) | (go_simp; (try unfold Instr.field); go_simp; (try simp only [asAgg]); go_simp; with_reducible rfl)
   rotate_left
   ·simp only [Act.put, List.setIfInBounds_toArray, List.set_cons_zero, List.set_cons_succ, i64_w, i32_w]
    rfl
   refine pure_ (i := 3) (N := some 34) (v := ?_) (a' := ?_) (Mk 18 15) rfl rfl (by kernel_rfl) (fun _ _ _ h => h) (Or.inl ⟨by rfl, ?_⟩) ?_ ?_
   rotate_left
   ·intro w'
    first | (go_simp; with_reducible rfl) | (go_simp; (try unfold Instr.field); go_simp; (try simp only [asAgg]); go_simp; with_reducible rfl)
   rotate_left
   ·simp only [Act.put, List.setIfInBounds_toArray, List.set_cons_zero, List.set_cons_succ, i64_w, i32_w]
    rfl
   refine take_ (i := 4) (N := some 35) (v := ?_) (a' := ?_) (Mk 18 31) rfl rfl (by kernel_rfl) (fun _ _ _ h => h) (Or.inl ⟨by rfl, ?_⟩) hHeld ?_ ?_
   rotate_left
   ·rintro w' ⟨s0, s1, s2, s3, s4, s5, s6, s7, s8⟩
    go_simp
    with_reducible rfl
   rotate_left
   ·simp only [Act.put, List.setIfInBounds_toArray, List.set_cons_zero, List.set_cons_succ, i64_w, i32_w]
    rfl
   refine pure_ (i := 5) (N := some 36) (v := ?_) (a' := ?_) (Mk 18 63) rfl rfl (by kernel_rfl) (fun _ _ _ h => h) (Or.inl ⟨by rfl, ?_⟩) ?_ ?_
   rotate_left
   ·intro w'
    first | (go_simp; with_reducible rfl) | (go_simp; (try unfold Instr.field); go_simp; (try simp only [asAgg]); go_simp; with_reducible rfl)
   rotate_left
   ·simp only [Act.put, List.setIfInBounds_toArray, List.set_cons_zero, List.set_cons_succ, i64_w, i32_w]
    rfl
   refine pure_ (i := 6) (N := some 37) (v := ?_) (a' := ?_) (Mk 18 127) rfl rfl (by kernel_rfl) (fun _ _ _ h => h) (Or.inl ⟨by rfl, ?_⟩) ?_ ?_
   rotate_left
   ·intro w'
    first | (go_simp; with_reducible rfl) | (go_simp; (try unfold Instr.field); go_simp; (try simp only [asAgg]); go_simp; with_reducible rfl)
   rotate_left
   ·simp only [Act.put, List.setIfInBounds_toArray, List.set_cons_zero, List.set_cons_succ, i64_w, i32_w]
    rfl
   refine pure_ (i := 7) (N := some 38) (v := ?_) (a' := ?_) (Mk 18 255) rfl rfl (by kernel_rfl) (fun _ _ _ h => h) (Or.inl ⟨by rfl, ?_⟩) ?_ ?_
   rotate_left
   ·intro w'
    first | (go_simp; with_reducible rfl) | (go_simp; (try unfold Instr.field); go_simp; (try simp only [asAgg]); go_simp; with_reducible rfl)
   rotate_left
   ·simp only [Act.put, List.setIfInBounds_toArray, List.set_cons_zero, List.set_cons_succ, i64_w, i32_w]
    rfl
   refine pure_ (i := 8) (N := some 39) (v := ?_) (a' := ?_) (Mk 18 511) rfl rfl (by kernel_rfl) (fun _ _ _ h => h) (Or.inl ⟨by rfl, ?_⟩) ?_ ?_
   rotate_left
   ·intro w'
    first | (go_simp; with_reducible rfl) | (go_simp; (try unfold Instr.field); go_simp; (try simp only [asAgg]); go_simp; with_reducible rfl)
   rotate_left
   ·simp only [Act.put, List.setIfInBounds_toArray, List.set_cons_zero, List.set_cons_succ, i64_w, i32_w]
    rfl
   refine pure_ (i := 9) (N := some 40) (v := ?_) (a' := ?_) (Mk 18 1023) rfl rfl (by kernel_rfl) (fun _ _ _ h => h) (Or.inl ⟨by rfl, ?_⟩) ?_ ?_
   rotate_left
   ·intro w'
    first | (go_simp; with_reducible rfl) | (go_simp; (try unfold Instr.field); go_simp; (try simp only [asAgg]); go_simp; with_reducible rfl)
   rotate_left
   ·simp only [Act.put, List.setIfInBounds_toArray, List.set_cons_zero, List.set_cons_succ, i64_w, i32_w]
    rfl
   refine pure_ (i := 10) (N := some 41) (v := ?_) (a' := ?_) (Mk 18 2047) rfl rfl (by kernel_rfl) (fun _ _ _ h => h) (Or.inl ⟨by rfl, ?_⟩) ?_ ?_
   rotate_left
   ·intro w'
    first | (go_simp; with_reducible rfl) | (go_simp; (try unfold Instr.field); go_simp; (try simp only [asAgg]); go_simp; with_reducible rfl)
   rotate_left
   ·simp only [Act.put, List.setIfInBounds_toArray, List.set_cons_zero, List.set_cons_succ, i64_w, i32_w]
    rfl
   refine take_ (i := 11) (N := some 42) (v := ?_) (a' := ?_) (Mk 18 4095) rfl rfl (by kernel_rfl) (fun _ _ _ h => h) (Or.inl ⟨by rfl, ?_⟩) hHeld ?_ ?_
   rotate_left
   ·rintro w' ⟨s0, s1, s2, s3, s4, s5, s6, s7, s8⟩
    go_simp
    with_reducible rfl
   rotate_left
   ·simp only [Act.put, List.setIfInBounds_toArray, List.set_cons_zero, List.set_cons_succ, i64_w, i32_w]
    rfl
   refine pure_ (i := 12) (N := some 43) (v := ?_) (a' := ?_) (Mk 18 8191) rfl rfl (by kernel_rfl) (fun _ _ _ h => h) (Or.inl ⟨by rfl, ?_⟩) ?_ ?_
   rotate_left
   ·intro w'
    first | (go_simp; with_reducible rfl) | (go_simp; (try unfold Instr.field); go_simp; (try simp only [asAgg]); go_simp; with_reducible rfl)
   rotate_left
   ·simp only [Act.put, List.setIfInBounds_toArray, List.set_cons_zero, List.set_cons_succ, i64_w, i32_w]
    rfl
   refine pure_ (i := 13) (N := some 44) (v := ?_) (a' := ?_) (Mk 18 16383) rfl rfl (by kernel_rfl) (fun _ _ _ h => h) (Or.inl ⟨by rfl, ?_⟩) ?_ ?_
   rotate_left
   ·intro w'
    first | (go_simp; with_reducible rfl) | (go_simp; (try unfold Instr.field); go_simp; (try simp only [asAgg]); go_simp; with_reducible rfl)
   rotate_left
   ·simp only [Act.put, List.setIfInBounds_toArray, List.set_cons_zero, List.set_cons_succ, i64_w, i32_w]
    rfl
   refine take_ (i := 14) (N := some 45) (v := ?_) (a' := ?_) (Mk 18 32767) rfl rfl (by kernel_rfl) (fun _ _ _ h => h) (Or.inl ⟨by rfl, ?_⟩) hHeld ?_ ?_
   rotate_left
   ·rintro w' ⟨s0, s1, s2, s3, s4, s5, s6, s7, s8⟩
    go_simp
    with_reducible rfl
   rotate_left
   ·simp only [Act.put, List.setIfInBounds_toArray, List.set_cons_zero, List.set_cons_succ, i64_w, i32_w]
    rfl
   refine take_ (i := 15) (N := some 46) (v := ?_) (a' := ?_) (Mk 18 65535) rfl rfl (by kernel_rfl) (fun _ _ _ h => h) (Or.inl ⟨by rfl, ?_⟩) hHeld ?_ ?_
   rotate_left
   ·rintro w' ⟨s0, s1, s2, s3, s4, s5, s6, s7, s8⟩
    go_simp
    with_reducible rfl
   rotate_left
   ·simp only [Act.put, List.setIfInBounds_toArray, List.set_cons_zero, List.set_cons_succ, i64_w, i32_w]
    rfl
   refine one_ (i := 16) (N := some 47) (Mk 18 131071) rfl rfl (by kernel_rfl) (by decide) (fun K hK => ?_)
   refine goes_ Try.func135 (by kernel_rfl) rfl #[.agg #[.int .i64 y.f0, .int .i64 y.f1, .int .i64 y.f2, .slice A3 y.f3.length c3], .agg #[.int .i64 x3, .int .i64 x4, .int .i64 x5, .slice none 0 0]] (by rfl) rfl rfl (by (try simp only [List.map_toArray, List.map_cons, List.map_nil]); first | done | rfl) ?_
   refine (hbeh _ hd).mono ?_
   rintro e_ wd ⟨rfl, hbc⟩
   replace hd := Dr.up hd hbc
   clear hbc hHeld
   refine ⟨_, rfl, ?_⟩
   refine hK.out _ _ (HS_ _ hd) (fun hHeld => ?_)
   clear hK K
   refine norm_ (a' := ?_) ?_ ?_
   rotate_left
   ·show Act.put _ (some 47) _ = _
    simp only [Act.put, List.setIfInBounds_toArray, List.set_cons_zero, List.set_cons_succ, i64_w, i32_w]
    rfl
   refine pure_ (i := 17) (N := some 48) (v := ?_) (a' := ?_) (Mk 18 262143) rfl rfl (by kernel_rfl) (fun _ _ _ h => h) (Or.inl ⟨by rfl, ?_⟩) ?_ ?_
   rotate_left
   ·intro w'
    first | (go_simp; with_reducible rfl) | (go_simp; (try unfold Instr.field); go_simp; (try simp only [asAgg]); go_simp; with_reducible rfl)
   rotate_left
   ·simp only [Act.put, List.setIfInBounds_toArray, List.set_cons_zero, List.set_cons_succ, i64_w, i32_w]
    rfl
   refine done_ (by kernel_rfl) ?_
   have HS4 := Aside0.mk (Dr.St.below HS3.out hd)
   have HV4 := Aside0.mk (blk_below HV3.out hd)
   clear hHeld hd HS_ HS3 HV3 HX0 HZ2 hbeh
   by_cases hbb : bb = true
   ·subst hbb
    go_wp2
    go_roundg (l2.length - kk - 1)
    case measure => omega
    case rel => exact ⟨kk + 1, by omega, by omega, by go_num, HS4, HV4⟩
   ·obtain rfl : bb = false := by simpa using hbb
    clear hbb
    go_wp2
    have hbs : w0.heap.size ≤ wd.heap.size := HS4.out.1.size
    have hMr := Dr.readsO HS4.out.2.2.2.2
    have hc1 := (Kd.R_reads' HS4.out.2.2.2.2).2.1
    have hMt := Dr.RR_take (m := kk) hMr (by omega)
    obtain ⟨i0_, hi0_, _, hsz_, _⟩ := info_parts info64
    have hcut1 := cut_to (P := Try.prog) 29 64 .i64 Try.underlying29 hi0_ (some ad) l2.length c2 (kk : Int) (by omega) (by omega) hc1
    obtain ⟨A2_, hcut2, hMd⟩ := Dr.cutdropM (P := Try.prog) hMr hc1 (kk) (by omega) 29 64 Try.underlying29 hi0_ hsz_
    simp only [Int.toNat_natCast] at hcut1
    have hlt_ : (l2.take kk).length = kk := by rw [List.length_take]; omega
    have hld_ : (l2.drop (kk)).length = l2.length - (kk) := List.length_drop
    obtain ⟨yc, hyc_⟩ : ∃ y : List S64, y = [⟨x3, x4, x5, []⟩] := ⟨_, rfl⟩
    have hyc := Aside0.mk hyc_
    have hycl : yc.length ≤ 1 := by rw [hyc_]; exact Nat.le_refl 1
    clear hyc_
    have HS_ : ∀ W, Below wd.heap.size wd W → (W.cell? ⟨g, 2, none⟩ = some (.slice (some ad) l2.length c2) ∧ W.cell? ⟨g7, 0, none⟩ = some (.int .i64 x3) ∧ W.cell? ⟨g7, 1, none⟩ = some (.int .i64 x4) ∧ W.cell? ⟨g7, 2, none⟩ = some (.int .i64 x5) ∧ W.cell? ⟨g7, 3, none⟩ = some (.slice none 0 0)) := fun W hW => ⟨pw_cell_below hW (blk_cell HS4.out.2.2.1 2), pw_cell_below hW (blk_cell HV4.out 0), pw_cell_below hW (blk_cell HV4.out 1), pw_cell_below hW (blk_cell HV4.out 2), pw_cell_below hW (blk_cell HV4.out 3)⟩
    have hd : Below wd.heap.size wd wd.drew := below_drew1 (Below.refl _ _)
    refine start_ (n := 22) (S := fun w' => w'.cell? ⟨g, 2, none⟩ = some (.slice (some ad) l2.length c2) ∧ w'.cell? ⟨g7, 0, none⟩ = some (.int .i64 x3) ∧ w'.cell? ⟨g7, 1, none⟩ = some (.int .i64 x4) ∧ w'.cell? ⟨g7, 2, none⟩ = some (.int .i64 x5) ∧ w'.cell? ⟨g7, 3, none⟩ = some (.slice none 0 0)) (ds := [21]) (Mk 22 0) (by kernel_rfl) rfl rfl (HS_ _ hd) (fun hHeld => ?_)
    generalize wd.drew = we at hd hHeld ⊢
    refine pure_ (i := 0) (N := some 51) (v := ?_) (a' := ?_) (Mk 22 1) rfl rfl (by kernel_rfl) (fun _ _ _ h => h) (Or.inl ⟨by rfl, ?_⟩) ?_ ?_
    rotate_left
    ·intro w'
     first | (go_simp; with_reducible rfl) | (go_simp; (try unfold Instr.field); go_simp; (try simp only [asAgg]); go_simp; with_reducible rfl)
    rotate_left
    ·simp only [Act.put, List.setIfInBounds_toArray, List.set_cons_zero, List.set_cons_succ, i64_w, i32_w]
     rfl
    refine pure_ (i := 2) (N := some 53) (v := ?_) (a' := ?_) (Mk 22 5) rfl rfl (by kernel_rfl) (fun _ _ _ h => h) (Or.inl ⟨by rfl, ?_⟩) ?_ ?_
    rotate_left
    ·intro w'
     first | (go_simp; with_reducible rfl) | (go_simp; (try unfold Instr.field); go_simp; (try simp only [asAgg]); go_simp; with_reducible rfl)
    rotate_left
    ·simp only [Act.put, List.setIfInBounds_toArray, List.set_cons_zero, List.set_cons_succ, i64_w, i32_w]
     rfl
    refine pure_ (i := 3) (N := some 54) (v := ?_) (a' := ?_) (Mk 22 13) rfl rfl (by kernel_rfl) (fun _ _ _ h => h) (Or.inl ⟨by rfl, ?_⟩) ?_ ?_
    rotate_left
    ·intro w'
     first | (go_simp; with_reducible rfl) | (go_simp; (try unfold Instr.field); go_simp; (try simp only [asAgg]); go_simp; with_reducible rfl)
    rotate_left
    ·simp only [Act.put, List.setIfInBounds_toArray, List.set_cons_zero, List.set_cons_succ, i64_w, i32_w]
     rfl
    refine pure_ (i := 4) (N := some 55) (v := ?_) (a' := ?_) (Mk 22 29) rfl rfl (by kernel_rfl) (fun _ _ _ h => h) (Or.inl ⟨by rfl, ?_⟩) ?_ ?_
    rotate_left
    ·intro w'
     first | (go_simp; with_reducible rfl) | (go_simp; (try unfold Instr.field); go_simp; (try simp only [asAgg]); go_simp; with_reducible rfl)
    rotate_left
    ·simp only [Act.put, List.setIfInBounds_toArray, List.set_cons_zero, List.set_cons_succ, i64_w, i32_w]
     rfl
    refine take_ (i := 5) (N := some 56) (v := ?_) (a' := ?_) (Mk 22 61) rfl rfl (by kernel_rfl) (fun _ _ _ h => h) (Or.inl ⟨by rfl, ?_⟩) hHeld ?_ ?_
    rotate_left
    ·rintro w' ⟨s0, s1, s2, s3, s4⟩
     go_simp
     with_reducible rfl
    rotate_left
    ·simp only [Act.put, List.setIfInBounds_toArray, List.set_cons_zero, List.set_cons_succ, i64_w, i32_w]
     rfl
    refine pure_ (i := 6) (N := some 57) (v := ?_) (a' := ?_) (Mk 22 125) rfl rfl (by kernel_rfl) (fun _ _ _ h => h) (Or.inl ⟨by rfl, ?_⟩) ?_ ?_
    rotate_left
    ·intro w'
     first | (go_simp; with_reducible rfl) | (go_simp; (try unfold Instr.field); go_simp; (try simp only [asAgg]); go_simp; with_reducible rfl)
    rotate_left
    ·simp only [Act.put, List.setIfInBounds_toArray, List.set_cons_zero, List.set_cons_succ, i64_w, i32_w]
     rfl
    refine pure_ (i := 7) (N := some 58) (v := ?_) (a' := ?_) (Mk 22 253) rfl rfl (by kernel_rfl) (fun _ _ _ h => h) (Or.inl ⟨by rfl, ?_⟩) ?_ ?_
    rotate_left
    ·intro w'
     first | (go_simp; with_reducible rfl) | (go_simp; (try unfold Instr.field); go_simp; (try simp only [asAgg]); go_simp; with_reducible rfl)
    rotate_left
    ·simp only [Act.put, List.setIfInBounds_toArray, List.set_cons_zero, List.set_cons_succ, i64_w, i32_w]
     rfl
    refine take_ (i := 9) (N := some 60) (v := ?_) (a' := ?_) (Mk 22 765) rfl rfl (by kernel_rfl) (fun _ _ _ h => h) (Or.inl ⟨by rfl, ?_⟩) hHeld ?_ ?_
    rotate_left
    ·rintro w' ⟨s0, s1, s2, s3, s4⟩
     go_simp
     with_reducible rfl
    rotate_left
    ·simp only [Act.put, List.setIfInBounds_toArray, List.set_cons_zero, List.set_cons_succ, i64_w, i32_w]
     rfl
    refine pure_ (i := 12) (N := some 63) (v := ?_) (a' := ?_) (Mk 22 4861) rfl rfl (by kernel_rfl) (fun _ _ _ h => h) (Or.inl ⟨by rfl, ?_⟩) ?_ ?_
    rotate_left
    ·intro w'
     first | (go_simp; with_reducible rfl) | (go_simp; (try unfold Instr.field); go_simp; (try simp only [asAgg]); go_simp; with_reducible rfl)
    rotate_left
    ·simp only [Act.put, List.setIfInBounds_toArray, List.set_cons_zero, List.set_cons_succ, i64_w, i32_w]
     rfl
    refine pure_ (i := 13) (N := some 64) (v := ?_) (a' := ?_) (Mk 22 13053) rfl rfl (by kernel_rfl) (fun _ _ _ h => h) (Or.inl ⟨by rfl, ?_⟩) ?_ ?_
    rotate_left
    ·intro w'
     first | (go_simp; with_reducible rfl) | (go_simp; (try unfold Instr.field); go_simp; (try simp only [asAgg]); go_simp; with_reducible rfl)
    rotate_left
    ·simp only [Act.put, List.setIfInBounds_toArray, List.set_cons_zero, List.set_cons_succ, i64_w, i32_w]
     rfl
    refine pure_ (i := 14) (N := some 65) (v := ?_) (a' := ?_) (Mk 22 29437) rfl rfl (by kernel_rfl) (fun _ _ _ h => h) (Or.inl ⟨by rfl, ?_⟩) ?_ ?_
    rotate_left
    ·intro w'
     first | (go_simp; with_reducible rfl) | (go_simp; (try unfold Instr.field); go_simp; (try simp only [asAgg]); go_simp; with_reducible rfl)
    rotate_left
    ·simp only [Act.put, List.setIfInBounds_toArray, List.set_cons_zero, List.set_cons_succ, i64_w, i32_w]
     rfl
    refine take_ (i := 15) (N := some 66) (v := ?_) (a' := ?_) (Mk 22 62205) rfl rfl (by kernel_rfl) (fun _ _ _ h => h) (Or.inl ⟨by rfl, ?_⟩) hHeld ?_ ?_
    rotate_left
    ·rintro w' ⟨s0, s1, s2, s3, s4⟩
     go_simp
     with_reducible rfl
    rotate_left
    ·simp only [Act.put, List.setIfInBounds_toArray, List.set_cons_zero, List.set_cons_succ, i64_w, i32_w]
     rfl
    refine pure_ (i := 16) (N := some 67) (v := ?_) (a' := ?_) (Mk 22 127741) rfl rfl (by kernel_rfl) (fun _ _ _ h => h) (Or.inl ⟨by rfl, ?_⟩) ?_ ?_
    rotate_left
    ·intro w'
     first | (go_simp; with_reducible rfl) | (go_simp; (try unfold Instr.field); go_simp; (try simp only [asAgg]); go_simp; with_reducible rfl)
    rotate_left
    ·simp only [Act.put, List.setIfInBounds_toArray, List.set_cons_zero, List.set_cons_succ, i64_w, i32_w]
     rfl
    refine pure_ (i := 17) (N := some 68) (v := ?_) (a' := ?_) (Mk 22 258813) rfl rfl (by kernel_rfl) (fun _ _ _ h => h) (Or.inl ⟨by rfl, ?_⟩) ?_ ?_
    rotate_left
    ·intro w'
     first | (go_simp; with_reducible rfl) | (go_simp; (try unfold Instr.field); go_simp; (try simp only [asAgg]); go_simp; with_reducible rfl)
    rotate_left
    ·simp only [Act.put, List.setIfInBounds_toArray, List.set_cons_zero, List.set_cons_succ, i64_w, i32_w]
     rfl
    refine join_ (σ := Value × Value × Value) 5 (Mk 22 260095) (fun s_ => [(52, s_.1), (59, s_.2.1), (61, s_.2.2)]) (fun s_ w' => Below wd.heap.size wd w' ∧ Kd.R k64 64 w' (w0.heap.size) (fun k_ => some k_ ≠ s_.2.2.ownBlock) s_.2.1 ([] ++ (l2.take kk)) ∧ Kd.R k64 64 w' (w0.heap.size) (fun k_ => some k_ ≠ s_.2.1.ownBlock) s_.2.2 yc ∧ (∀ k_, s_.2.1.ownBlock = some k_ → wd.heap.size ≤ k_)) ?_ ?_
    rotate_left
    ·intro hCont
     refine two_ (i := 1) (j := 10) (Ni := some 52) (Nj := some 61) (Mk 22 258815) (Mk 22 259837) rfl rfl rfl rfl (by kernel_rfl) (by decide) (by decide) (fun K hK => ?_) (fun K hK => ?_)
     ·skip
      skip
      refine Kd.R_lit_step k64 _ 64 ?hg (N := 52) ?hd (xs := ([] : List (S64))) (inner := []) (ok := fun _ => True) (okp := fun _ => True) ?hr ?hp (fun _ hk => hk) trivial (Below.refl _ _) (Nat.le_refl _) (by simp) ?_; (case hd => rfl); (case hg => rfl); (case hr => first | (go_simp; done) | (go_simp; rfl)); (case hp => exact (Reps.none _ _))
      intro va wa hoA hbA hgA_ hn_
      have hbdA := Dl.bound_new (v := va) hn_ hd.size
      have hA := Kd.R_lower hoA (Nat.le_trans hbs hd.size)
      replace hd := hd.trans (hbA.mono hd.size)
      clear hoA hbA hgA_ hn_ hHeld
      refine hK.out _ _ (HS_ _ hd) (fun hHeld => ?_)
      clear hK K
      refine norm_ (a' := ?_) ?_ ?_
      rotate_left
      ·show Act.put _ (some 52) _ = _
       simp only [Act.put, List.setIfInBounds_toArray, List.set_cons_zero, List.set_cons_succ, i64_w, i32_w]
       rfl
      refine two_ (i := 8) (j := 10) (Ni := some 59) (Nj := some 61) (Mk 22 259071) (Mk 22 259839) rfl rfl rfl rfl (by kernel_rfl) (by decide) (by decide) (fun K hK => ?_) (fun K hK => ?_)
      ·skip
       skip
       refine Kd.R_append_rows_step k64 (w0 := wd) (w0.heap.size) (by rfl) (.tmp 52) (.tmp 58) 29 64 (.agg #[(.int .i64 0), (.int .i64 0), (.int .i64 0), (.slice none 0 0)]) 48 rfl Try.underlying29 info64 rfl (by decide) (by omega) va [] (l2.take kk) _ _ _ (fun _ => True) (fun k_ => k_ < wd.heap.size) rfl rfl ?aO ?aR (fun _ _ h => h) (fun k_ hk => ⟨by first | exact trivial | exact fun e_ => Nat.not_le.2 hk (hbdC k_ e_.symm), fun e_ => Nat.not_le.2 hk (hbdA k_ e_.symm)⟩) ?aF ?aB ?aS ?aL ?_
       (case aR => exact ReadsRow.imp_ hMt hd (fun _ _ hp => Kd.M_below hp hd))
       (case aB => exact hd.mono hbs)
       (case aF => exact (fun _ _ => trivial))
       (case aO => exact hA)
       (case aS => exact Nat.le_trans hbs hd.size)
       (case aL => simp only [List.length_nil]; omega)
       intro vb wb hoB hbB_ hgB hatB
       have hbdB := Dl.bound_at hbdA hd.size hatB
       replace hd := hd.grown hgB hd.size hbdA
       clear hbB_ hgB hatB hHeld hA hbdA
       have hA := hoB
       have hbdA := hbdB
       clear hoB hbdB
       refine hK.out _ _ (HS_ _ hd) (fun hHeld => ?_)
       clear hK K
       refine norm_ (a' := ?_) ?_ ?_
       rotate_left
       ·show Act.put _ (some 59) _ = _
        simp only [Act.put, List.setIfInBounds_toArray, List.set_cons_zero, List.set_cons_succ, i64_w, i32_w]
        rfl
       refine one_ (i := 10) (N := some 61) (Mk 22 260095) rfl rfl (by kernel_rfl) (by decide) (fun K hK => ?_)
       refine Kd.R_lit_step k64 _ 64 ?hg (N := 61) ?hd (xs := ([⟨x3, x4, x5, []⟩] : List S64)) (inner := [.int .i64 x3, .int .i64 x4, .int .i64 x5, .slice none 0 0]) (ok := fun _ => True) (okp := fun _ => True) ?hr ?hp (fun _ hk => hk) trivial (Below.refl _ _) (Nat.le_refl _) (by simp) ?_; (case hd => rfl); (case hg => rfl); (case hr => first | (go_simp; done) | (go_simp; rfl)); (case hp => exact (Reps.c4 (show k64.M _ _ _ (⟨x3, x4, x5, []⟩ : S64) _ from k64_mkM _ _ _ _ (Kd.R_nil _ _ _ _ _)) (Reps.none _ _)))
       intro vc wc hoC hbC hgC_ hn_
       rw [← hyc.out] at hoC
       have hbdC := Dl.bound_new (v := vc) hn_ hd.size
       have hC := Kd.R_mono (Kd.R_lower (Kd.R_new' hoC (Kd.R_lt hA)) (Nat.le_trans hbs hd.size)) (ok' := fun k_ => some k_ ≠ vb.ownBlock) (fun _ h_ => h_.2)
       replace hA := Kd.R_mono (Kd.R_elder' hA (Kd.R_base hoC) hbC) (ok' := fun k_ => some k_ ≠ vc.ownBlock) (fun _ h_ => h_.2)
       replace hd := hd.trans (hbC.mono hd.size)
       clear hoC hbC hgC_ hn_ hHeld
       refine hK.out _ _ (HS_ _ hd) (fun hHeld => ?_)
       clear hK K
       refine norm_ (a' := ?_) ?_ ?_
       rotate_left
       ·show Act.put _ (some 61) _ = _
        simp only [Act.put, List.setIfInBounds_toArray, List.set_cons_zero, List.set_cons_succ, i64_w, i32_w]
        rfl
       exact norm_ (by simp only [putAll, Act.put, List.setIfInBounds_toArray, List.set_cons_zero, List.set_cons_succ]) (hCont (va, vb, vc) _ ⟨hd, hA, hC, hbdA⟩)
      ·skip
       skip
       refine Kd.R_lit_step k64 _ 64 ?hg (N := 61) ?hd (xs := ([⟨x3, x4, x5, []⟩] : List S64)) (inner := [.int .i64 x3, .int .i64 x4, .int .i64 x5, .slice none 0 0]) (ok := fun _ => True) (okp := fun _ => True) ?hr ?hp (fun _ hk => hk) trivial (Below.refl _ _) (Nat.le_refl _) (by simp) ?_; (case hd => rfl); (case hg => rfl); (case hr => first | (go_simp; done) | (go_simp; rfl)); (case hp => exact (Reps.c4 (show k64.M _ _ _ (⟨x3, x4, x5, []⟩ : S64) _ from k64_mkM _ _ _ _ (Kd.R_nil _ _ _ _ _)) (Reps.none _ _)))
       intro vc wc hoC hbC hgC_ hn_
       rw [← hyc.out] at hoC
       have hbdC := Dl.bound_new (v := vc) hn_ hd.size
       have hC := Kd.R_mono (Kd.R_lower (Kd.R_new' hoC (Kd.R_lt hA)) (Nat.le_trans hbs hd.size)) (ok' := fun k_ => some k_ ≠ va.ownBlock) (fun _ h_ => h_.2)
       replace hA := Kd.R_mono (Kd.R_elder' hA (Kd.R_base hoC) hbC) (ok' := fun k_ => some k_ ≠ vc.ownBlock) (fun _ h_ => h_.2)
       replace hd := hd.trans (hbC.mono hd.size)
       clear hoC hbC hgC_ hn_ hHeld
       refine hK.out _ _ (HS_ _ hd) (fun hHeld => ?_)
       clear hK K
       refine norm_ (a' := ?_) ?_ ?_
       rotate_left
       ·show Act.put _ (some 61) _ = _
        simp only [Act.put, List.setIfInBounds_toArray, List.set_cons_zero, List.set_cons_succ, i64_w, i32_w]
        rfl
       refine one_ (i := 8) (N := some 59) (Mk 22 260095) rfl rfl (by kernel_rfl) (by decide) (fun K hK => ?_)
       refine Kd.R_append_rows_step k64 (w0 := wd) (w0.heap.size) (by rfl) (.tmp 52) (.tmp 58) 29 64 (.agg #[(.int .i64 0), (.int .i64 0), (.int .i64 0), (.slice none 0 0)]) 48 rfl Try.underlying29 info64 rfl (by decide) (by omega) va [] (l2.take kk) _ _ _ (fun k_ => some k_ ≠ (vc : Value).ownBlock) (fun k_ => k_ < wd.heap.size) rfl rfl ?aO ?aR (fun _ _ h => h) (fun k_ hk => ⟨by first | exact trivial | exact fun e_ => Nat.not_le.2 hk (hbdC k_ e_.symm), fun e_ => Nat.not_le.2 hk (hbdA k_ e_.symm)⟩) ?aF ?aB ?aS ?aL ?_
       (case aR => exact ReadsRow.imp_ hMt hd (fun _ _ hp => Kd.M_below hp hd))
       (case aB => exact hd.mono hbs)
       (case aF => exact (fun k_ hk => Kd.fresh' (Kd.R_lt hC) k_ hk))
       (case aO => exact hA)
       (case aS => exact Nat.le_trans hbs hd.size)
       (case aL => simp only [List.length_nil]; omega)
       intro vb wb hoB hbB_ hgB hatB
       have hbdB := Dl.bound_at hbdA hd.size hatB
       replace hC := Kd.R_mono (Kd.R_after (ok := (fun _ => True)) (Kd.R_mono hC (fun _ hk => ⟨trivial, hk⟩)) hgB hatB) (ok' := fun k_ => some k_ ≠ vb.ownBlock) (fun _ h_ => h_.2)
       replace hd := hd.grown hgB hd.size hbdA
       clear hbB_ hgB hatB hHeld hA hbdA
       have hA := hoB
       have hbdA := hbdB
       clear hoB hbdB
       refine hK.out _ _ (HS_ _ hd) (fun hHeld => ?_)
       clear hK K
       refine norm_ (a' := ?_) ?_ ?_
       rotate_left
       ·show Act.put _ (some 59) _ = _
        simp only [Act.put, List.setIfInBounds_toArray, List.set_cons_zero, List.set_cons_succ, i64_w, i32_w]
        rfl
       exact norm_ (by simp only [putAll, Act.put, List.setIfInBounds_toArray, List.set_cons_zero, List.set_cons_succ]) (hCont (va, vb, vc) _ ⟨hd, hA, hC, hbdA⟩)
     ·skip
      skip
      refine Kd.R_lit_step k64 _ 64 ?hg (N := 61) ?hd (xs := ([⟨x3, x4, x5, []⟩] : List S64)) (inner := [.int .i64 x3, .int .i64 x4, .int .i64 x5, .slice none 0 0]) (ok := fun _ => True) (okp := fun _ => True) ?hr ?hp (fun _ hk => hk) trivial (Below.refl _ _) (Nat.le_refl _) (by simp) ?_; (case hd => rfl); (case hg => rfl); (case hr => first | (go_simp; done) | (go_simp; rfl)); (case hp => exact (Reps.c4 (show k64.M _ _ _ (⟨x3, x4, x5, []⟩ : S64) _ from k64_mkM _ _ _ _ (Kd.R_nil _ _ _ _ _)) (Reps.none _ _)))
      intro vc wc hoC hbC hgC_ hn_
      rw [← hyc.out] at hoC
      have hbdC := Dl.bound_new (v := vc) hn_ hd.size
      have hC := Kd.R_lower hoC (Nat.le_trans hbs hd.size)
      replace hd := hd.trans (hbC.mono hd.size)
      clear hoC hbC hgC_ hn_ hHeld
      refine hK.out _ _ (HS_ _ hd) (fun hHeld => ?_)
      clear hK K
      refine norm_ (a' := ?_) ?_ ?_
      rotate_left
      ·show Act.put _ (some 61) _ = _
       simp only [Act.put, List.setIfInBounds_toArray, List.set_cons_zero, List.set_cons_succ, i64_w, i32_w]
       rfl
      refine one_ (i := 1) (N := some 52) (Mk 22 259839) rfl rfl (by kernel_rfl) (by decide) (fun K hK => ?_)
      refine Kd.R_lit_step k64 _ 64 ?hg (N := 52) ?hd (xs := ([] : List (S64))) (inner := []) (ok := fun _ => True) (okp := fun _ => True) ?hr ?hp (fun _ hk => hk) trivial (Below.refl _ _) (Nat.le_refl _) (by simp) ?_; (case hd => rfl); (case hg => rfl); (case hr => first | (go_simp; done) | (go_simp; rfl)); (case hp => exact (Reps.none _ _))
      intro va wa hoA hbA hgA_ hn_
      have hbdA := Dl.bound_new (v := va) hn_ hd.size
      have hA := Kd.R_mono (Kd.R_lower (Kd.R_new' hoA (Kd.R_lt hC)) (Nat.le_trans hbs hd.size)) (ok' := fun k_ => some k_ ≠ vc.ownBlock) (fun _ h_ => h_.2)
      replace hC := Kd.R_mono (Kd.R_elder' hC (Kd.R_base hoA) hbA) (ok' := fun k_ => some k_ ≠ va.ownBlock) (fun _ h_ => h_.2)
      replace hd := hd.trans (hbA.mono hd.size)
      clear hoA hbA hgA_ hn_ hHeld
      refine hK.out _ _ (HS_ _ hd) (fun hHeld => ?_)
      clear hK K
      refine norm_ (a' := ?_) ?_ ?_
      rotate_left
      ·show Act.put _ (some 52) _ = _
       simp only [Act.put, List.setIfInBounds_toArray, List.set_cons_zero, List.set_cons_succ, i64_w, i32_w]
       rfl
      refine one_ (i := 8) (N := some 59) (Mk 22 260095) rfl rfl (by kernel_rfl) (by decide) (fun K hK => ?_)
      refine Kd.R_append_rows_step k64 (w0 := wd) (w0.heap.size) (by rfl) (.tmp 52) (.tmp 58) 29 64 (.agg #[(.int .i64 0), (.int .i64 0), (.int .i64 0), (.slice none 0 0)]) 48 rfl Try.underlying29 info64 rfl (by decide) (by omega) va [] (l2.take kk) _ _ _ (fun k_ => some k_ ≠ (vc : Value).ownBlock) (fun k_ => k_ < wd.heap.size) rfl rfl ?aO ?aR (fun _ _ h => h) (fun k_ hk => ⟨by first | exact trivial | exact fun e_ => Nat.not_le.2 hk (hbdC k_ e_.symm), fun e_ => Nat.not_le.2 hk (hbdA k_ e_.symm)⟩) ?aF ?aB ?aS ?aL ?_
      (case aR => exact ReadsRow.imp_ hMt hd (fun _ _ hp => Kd.M_below hp hd))
      (case aB => exact hd.mono hbs)
      (case aF => exact (fun k_ hk => Kd.fresh' (Kd.R_lt hC) k_ hk))
      (case aO => exact hA)
      (case aS => exact Nat.le_trans hbs hd.size)
      (case aL => simp only [List.length_nil]; omega)
      intro vb wb hoB hbB_ hgB hatB
      have hbdB := Dl.bound_at hbdA hd.size hatB
      replace hC := Kd.R_mono (Kd.R_after (ok := (fun _ => True)) (Kd.R_mono hC (fun _ hk => ⟨trivial, hk⟩)) hgB hatB) (ok' := fun k_ => some k_ ≠ vb.ownBlock) (fun _ h_ => h_.2)
      replace hd := hd.grown hgB hd.size hbdA
      clear hbB_ hgB hatB hHeld hA hbdA
      have hA := hoB
      have hbdA := hbdB
      clear hoB hbdB
      refine hK.out _ _ (HS_ _ hd) (fun hHeld => ?_)
      clear hK K
      refine norm_ (a' := ?_) ?_ ?_
      rotate_left
      ·show Act.put _ (some 59) _ = _
       simp only [Act.put, List.setIfInBounds_toArray, List.set_cons_zero, List.set_cons_succ, i64_w, i32_w]
       rfl
      exact norm_ (by simp only [putAll, Act.put, List.setIfInBounds_toArray, List.set_cons_zero, List.set_cons_succ]) (hCont (va, vb, vc) _ ⟨hd, hA, hC, hbdA⟩)
    clear hHeld hd
    rintro ⟨v0_, va, vc⟩ wj ⟨hd, hA, hC, hbdA⟩
    have hHeld := HS_ _ hd
    obtain ⟨Ac_, cc_, ec_⟩ := Kd.R_slice hC
    subst ec_
    refine norm_ (a' := ?_) ?_ ?_
    rotate_left
    ·simp only [putAll, Act.put, List.setIfInBounds_toArray, List.set_cons_zero, List.set_cons_succ]
     rfl
    refine one_ (i := 11) (N := some 62) (Mk 22 262143) rfl rfl (by kernel_rfl) (by decide) (fun K hK => ?_)
    refine Kd.R_append_rows_step k64 (w0 := wd) (w0.heap.size) (by rfl) (.tmp 59) (.tmp 61) 29 64 (.agg #[(.int .i64 0), (.int .i64 0), (.int .i64 0), (.slice none 0 0)]) 48 rfl Try.underlying29 info64 rfl (by decide) (by omega) va ([] ++ (l2.take kk)) yc _ _ _ (fun k_ => some k_ ≠ (.slice Ac_ yc.length cc_ : Value).ownBlock) (fun k_ => some k_ ≠ va.ownBlock ∧ some k_ ≠ (Value.slice Ac_ yc.length cc_).ownBlock) rfl rfl ?aO ?aR (fun _ _ h => h) (fun k_ hk => ⟨hk.2, hk.1⟩) ?aF ?aB ?aS ?aL ?_
    (case aR => exact Dr.readsM hC)
    (case aB => exact hd.mono hbs)
    (case aF => exact (fun k_ hk => Kd.fresh' (Kd.R_lt hC) k_ hk))
    (case aO => exact hA)
    (case aS => exact Nat.le_trans hbs hd.size)
    (case aL => have := hycl; simp only [List.nil_append]; omega)
    intro vb wb hoB hbB_ hgB hatB
    have hbdB := Dl.bound_at hbdA hd.size hatB
    replace hC := Kd.R_mono (Kd.R_after (ok := (fun _ => True)) (Kd.R_mono hC (fun _ hk => ⟨trivial, hk⟩)) hgB hatB) (ok' := fun k_ => some k_ ≠ vb.ownBlock) (fun _ h_ => h_.2)
    replace hd := hd.grown hgB hd.size hbdA
    clear hbB_ hgB hatB hHeld hA hbdA
    have hA := hoB
    have hbdA := hbdB
    clear hoB hbdB
    refine hK.out _ _ (HS_ _ hd) (fun hHeld => ?_)
    clear hK K
    refine norm_ (a' := ?_) ?_ ?_
    rotate_left
    ·show Act.put _ (some 62) _ = _
     simp only [Act.put, List.setIfInBounds_toArray, List.set_cons_zero, List.set_cons_succ, i64_w, i32_w]
     rfl
    replace hA := Kd.R_mono hA (ok' := fun _ => True) (fun _ _ => trivial)
    refine one_ (i := 18) (N := some 69) (Mk 22 524287) rfl rfl (by kernel_rfl) (by decide) (fun K hK => ?_)
    refine Kd.R_append_rows_step k64 (w0 := wd) (w0.heap.size) (by rfl) (.tmp 62) (.tmp 68) 29 64 (.agg #[(.int .i64 0), (.int .i64 0), (.int .i64 0), (.slice none 0 0)]) 48 rfl Try.underlying29 info64 rfl (by decide) (by omega) vb ([] ++ (l2.take kk) ++ yc) (l2.drop kk) _ _ _ (fun _ => True) (fun k_ => k_ < wd.heap.size) rfl rfl ?aO ?aR (fun _ _ h => h) (fun k_ hk => ⟨by first | exact trivial | exact fun e_ => Nat.not_le.2 hk (hbdC k_ e_.symm), fun e_ => Nat.not_le.2 hk (hbdA k_ e_.symm)⟩) ?aF ?aB ?aS ?aL ?_
    (case aR => exact ReadsRow.imp_ hMd hd (fun _ _ hp => Kd.M_below hp hd))
    (case aB => exact hd.mono hbs)
    (case aF => exact (fun _ _ => trivial))
    (case aO => exact hA)
    (case aS => exact Nat.le_trans hbs hd.size)
    (case aL => have := hycl; simp only [List.nil_append, List.length_append]; omega)
    intro vb wb hoB hbB_ hgB hatB
    have hbdB := Dl.bound_at hbdA hd.size hatB
    replace hd := hd.grown hgB hd.size hbdA
    clear hbB_ hgB hatB hHeld
    have hA := hoB
    have hbdA := hbdB
    clear hoB hbdB
    refine hK.out _ _ (HS_ _ hd) (fun hHeld => ?_)
    clear hK K
    refine norm_ (a' := ?_) ?_ ?_
    rotate_left
    ·show Act.put _ (some 69) _ = _
     simp only [Act.put, List.setIfInBounds_toArray, List.set_cons_zero, List.set_cons_succ, i64_w, i32_w]
     rfl
    refine pure_ (i := 19) (N := some 70) (v := ?_) (a' := ?_) (Mk 22 1048575) rfl rfl (by kernel_rfl) (fun _ _ _ h => h) (Or.inl ⟨by rfl, ?_⟩) ?_ ?_
    rotate_left
    ·intro w'
     first | (go_simp; with_reducible rfl) | (go_simp; (try unfold Instr.field); go_simp; (try simp only [asAgg]); go_simp; with_reducible rfl)
    rotate_left
    ·simp only [Act.put, List.setIfInBounds_toArray, List.set_cons_zero, List.set_cons_succ, i64_w, i32_w]
     rfl
    refine pure_ (i := 20) (N := some 71) (v := ?_) (a' := ?_) (Mk 22 2097151) rfl rfl (by kernel_rfl) (fun _ _ _ h => h) (Or.inl ⟨by rfl, ?_⟩) ?_ ?_
    rotate_left
    ·intro w'
     first | (go_simp; with_reducible rfl) | (go_simp; (try unfold Instr.field); go_simp; (try simp only [asAgg]); go_simp; with_reducible rfl)
    rotate_left
    ·simp only [Act.put, List.setIfInBounds_toArray, List.set_cons_zero, List.set_cons_succ, i64_w, i32_w]
     rfl
    obtain ⟨lq, hlq⟩ : ∃ l_ : List S64, l_ = [] ++ l2.take kk ++ yc ++ l2.drop kk := ⟨_, rfl⟩
    rw [← hlq] at hA
    have HLQ := Aside0.mk hlq
    clear hlq
    obtain ⟨AQ, cQ, eQ⟩ := Kd.R_slice hA
    subst eQ
    have HS8 := Aside0.mk (Dr.St.below HS4.out hd)
    have y1 := blk_cell HS8.out.2.2.1 2
    have f1 := blk_frozen HS8.out.2.2.1 2
    refine last_ (i := 21) (N := none) (Mk 22 4194303) rfl rfl (by kernel_rfl) (by decide) (fun K hK => ?_)
    refine skip_ (w1 := ?_) (by rfl) rfl ?_ ?_
    rotate_left
    ·go_simp
     rfl
    refine hK.out _ _ ?_
    clear hK K
    refine done_ (by kernel_rfl) ?_
    have HS9 := Aside0.mk (Dr.St.new2 HS8.out hA)
    clear hHeld y1 f1 hd hbdA HS_
    go_wp2
    go_ret
    refine ⟨_, _, _, rfl, HS9.out, ?_, ?_⟩
    ·have := hycl
     rw [HLQ.out]
     simp only [List.length_append, List.length_nil, hlt_, hld_]
     omega
    ·intro y hy
     rw [HLQ.out, hyc.out] at hy
     simp only [List.nil_append, List.mem_append, List.mem_singleton] at hy
     rcases hy with (hy | rfl) | hy
     ·exact HM.out y (List.mem_of_mem_take hy)
     ·exact Nat.zero_le _
     ·exact HM.out y (List.mem_of_mem_drop hy)
  ·have hltz : ¬ (kk : Int) < (l2.length : Int) := by omega
   have hltd : decide ((kk : Int) < (l2.length : Int)) = false := decide_eq_false hltz
   go_wp2
   have HS_ : ∀ W, Below wr.heap.size wr W → (W.cell? ⟨g, 2, none⟩ = some (.slice A2 l2.length c2)) := fun W hW => pw_cell_below hW HZ2.out
   have hd : Below wr.heap.size wr wr.drew := below_drew1 (Below.refl _ _)
   refine start_ (n := 18) (S := fun w' => w'.cell? ⟨g, 2, none⟩ = some (.slice A2 l2.length c2)) (ds := []) (Mk 18 0) (by kernel_rfl) rfl rfl (HS_ _ hd) (fun hHeld => ?_)
   generalize wr.drew = wd at hd hHeld ⊢
   refine pure_ (i := 0) (N := some 31) (v := ?_) (a' := ?_) (Mk 18 1) rfl rfl (by kernel_rfl) (fun _ _ _ h => h) (Or.inl ⟨by rfl, ?_⟩) ?_ ?_
   rotate_left
   ·intro w'
    first | (go_simp; with_reducible rfl) | (go_simp; (try unfold Instr.field); go_simp; (try simp only [asAgg]); go_simp; with_reducible rfl)
   rotate_left
   ·simp only [Act.put, List.setIfInBounds_toArray, List.set_cons_zero, List.set_cons_succ, i64_w, i32_w]
    rfl
   refine pure_ (i := 1) (N := some 32) (v := ?_) (a' := ?_) (Mk 18 3) rfl rfl (by kernel_rfl) (fun _ _ _ h => h) (Or.inl ⟨by rfl, ?_⟩) ?_ ?_
   rotate_left
   ·intro w'
    first | (go_simp; with_reducible rfl) | (go_simp; (try unfold Instr.field); go_simp; (try simp only [asAgg]); go_simp; with_reducible rfl)
   rotate_left
   ·simp only [Act.put, List.setIfInBounds_toArray, List.set_cons_zero, List.set_cons_succ, i64_w, i32_w]
    rfl
   refine pure_ (i := 2) (N := some 33) (v := ?_) (a' := ?_) (Mk 18 7) rfl rfl (by kernel_rfl) (fun _ _ _ h => h) (Or.inl ⟨by rfl, ?_⟩) ?_ ?_
   rotate_left
   ·intro w'
    first | (go_simp; with_reducible rfl) | (go_simp; (try unfold Instr.field); go_simp; (try simp only [asAgg]); go_simp; with_reducible rfl)
   rotate_left
   ·simp only [Act.put, List.setIfInBounds_toArray, List.set_cons_zero, List.set_cons_succ, i64_w, i32_w]
    rfl
   refine pure_ (i := 3) (N := some 34) (v := ?_) (a' := ?_) (Mk 18 15) rfl rfl (by kernel_rfl) (fun _ _ _ h => h) (Or.inl ⟨by rfl, ?_⟩) ?_ ?_
   rotate_left
   ·intro w'
    first | (go_simp; with_reducible rfl) | (go_simp; (try unfold Instr.field); go_simp; (try simp only [asAgg]); go_simp; with_reducible rfl)
   rotate_left
   ·simp only [Act.put, List.setIfInBounds_toArray, List.set_cons_zero, List.set_cons_succ, i64_w, i32_w]
    rfl
   refine take_ (i := 4) (N := some 35) (v := ?_) (a' := ?_) (Mk 18 31) rfl rfl (by kernel_rfl) (fun _ _ _ h => h) (Or.inl ⟨by rfl, ?_⟩) hHeld ?_ ?_
   rotate_left
   ·intro w' s0
    go_simp
    with_reducible rfl
   rotate_left
   ·simp only [Act.put, List.setIfInBounds_toArray, List.set_cons_zero, List.set_cons_succ, i64_w, i32_w]
    rfl
   refine pure_ (i := 5) (N := some 36) (v := ?_) (a' := ?_) (Mk 18 63) rfl rfl (by kernel_rfl) (fun _ _ _ h => h) (Or.inl ⟨by rfl, ?_⟩) ?_ ?_
   rotate_left
   ·intro w'
    first | (go_simp; with_reducible rfl) | (go_simp; (try unfold Instr.field); go_simp; (try simp only [asAgg]); go_simp; with_reducible rfl)
   rotate_left
   ·simp only [Act.put, List.setIfInBounds_toArray, List.set_cons_zero, List.set_cons_succ, i64_w, i32_w]
    rfl
   refine pure_ (i := 6) (N := some 37) (v := ?_) (a' := ?_) (Mk 18 127) rfl rfl (by kernel_rfl) (fun _ _ _ h => h) (Or.inl ⟨by rfl, ?_⟩) ?_ ?_
   rotate_left
   ·intro w'
    first | (go_simp; with_reducible rfl) | (go_simp; (try unfold Instr.field); go_simp; (try simp only [asAgg]); go_simp; with_reducible rfl)
   rotate_left
   ·simp only [Act.put, List.setIfInBounds_toArray, List.set_cons_zero, List.set_cons_succ, i64_w, i32_w]
    rfl
   refine pure_ (i := 7) (N := some 38) (v := ?_) (a' := ?_) (Mk 18 255) rfl rfl (by kernel_rfl) (fun _ _ _ h => h) (Or.inl ⟨by rfl, ?_⟩) ?_ ?_
   rotate_left
   ·intro w'
    first | (go_simp; with_reducible rfl) | (go_simp; (try unfold Instr.field); go_simp; (try simp only [asAgg]); go_simp; with_reducible rfl)
   rotate_left
   ·simp only [Act.put, List.setIfInBounds_toArray, List.set_cons_zero, List.set_cons_succ, i64_w, i32_w]
    rfl
   refine pure_ (i := 8) (N := some 39) (v := undef) (a' := ?_) (Mk 18 511) rfl rfl (by kernel_rfl) (fun _ _ _ h => h) (Or.inr ⟨by rfl, rfl⟩) ?_ ?_
   rotate_left
   ·simp only [Act.put, List.setIfInBounds_toArray, List.set_cons_zero, List.set_cons_succ, i64_w, i32_w]
    rfl
   refine pure_ (i := 9) (N := some 40) (v := undef) (a' := ?_) (Mk 18 1023) rfl rfl (by kernel_rfl) (fun _ _ _ h => h) (Or.inr ⟨by rfl, rfl⟩) ?_ ?_
   rotate_left
   ·simp only [Act.put, List.setIfInBounds_toArray, List.set_cons_zero, List.set_cons_succ, i64_w, i32_w]
    rfl
   refine pure_ (i := 10) (N := some 41) (v := undef) (a' := ?_) (Mk 18 2047) rfl rfl (by kernel_rfl) (fun _ _ _ h => h) (Or.inr ⟨by rfl, rfl⟩) ?_ ?_
   rotate_left
   ·simp only [Act.put, List.setIfInBounds_toArray, List.set_cons_zero, List.set_cons_succ, i64_w, i32_w]
    rfl
   refine pure_ (i := 11) (N := some 42) (v := undef) (a' := ?_) (Mk 18 4095) rfl rfl (by kernel_rfl) (fun _ _ _ h => h) (Or.inr ⟨by rfl, rfl⟩) ?_ ?_
   rotate_left
   ·simp only [Act.put, List.setIfInBounds_toArray, List.set_cons_zero, List.set_cons_succ, i64_w, i32_w]
    rfl
   refine pure_ (i := 12) (N := some 43) (v := undef) (a' := ?_) (Mk 18 8191) rfl rfl (by kernel_rfl) (fun _ _ _ h => h) (Or.inr ⟨by rfl, rfl⟩) ?_ ?_
   rotate_left
   ·simp only [Act.put, List.setIfInBounds_toArray, List.set_cons_zero, List.set_cons_succ, i64_w, i32_w]
    rfl
   refine pure_ (i := 13) (N := some 44) (v := undef) (a' := ?_) (Mk 18 16383) rfl rfl (by kernel_rfl) (fun _ _ _ h => h) (Or.inr ⟨by rfl, rfl⟩) ?_ ?_
   rotate_left
   ·simp only [Act.put, List.setIfInBounds_toArray, List.set_cons_zero, List.set_cons_succ, i64_w, i32_w]
    rfl
   refine pure_ (i := 14) (N := some 45) (v := undef) (a' := ?_) (Mk 18 32767) rfl rfl (by kernel_rfl) (fun _ _ _ h => h) (Or.inr ⟨by rfl, rfl⟩) ?_ ?_
   rotate_left
   ·simp only [Act.put, List.setIfInBounds_toArray, List.set_cons_zero, List.set_cons_succ, i64_w, i32_w]
    rfl
   refine pure_ (i := 15) (N := some 46) (v := undef) (a' := ?_) (Mk 18 65535) rfl rfl (by kernel_rfl) (fun _ _ _ h => h) (Or.inr ⟨by rfl, rfl⟩) ?_ ?_
   rotate_left
   ·simp only [Act.put, List.setIfInBounds_toArray, List.set_cons_zero, List.set_cons_succ, i64_w, i32_w]
    rfl
   refine pure_ (i := 16) (N := some 47) (v := undef) (a' := ?_) (Mk 18 131071) rfl rfl (by kernel_rfl) (fun _ _ _ h => h) (Or.inr ⟨by rfl, rfl⟩) ?_ ?_
   rotate_left
   ·simp only [Act.put, List.setIfInBounds_toArray, List.set_cons_zero, List.set_cons_succ, i64_w, i32_w]
    rfl
   refine pure_ (i := 17) (N := some 48) (v := ?_) (a' := ?_) (Mk 18 262143) rfl rfl (by kernel_rfl) (fun _ _ _ h => h) (Or.inl ⟨by rfl, ?_⟩) ?_ ?_
   rotate_left
   ·intro w'
    first | (go_simp; with_reducible rfl) | (go_simp; (try unfold Instr.field); go_simp; (try simp only [asAgg]); go_simp; with_reducible rfl)
   rotate_left
   ·simp only [Act.put, List.setIfInBounds_toArray, List.set_cons_zero, List.set_cons_succ, i64_w, i32_w]
    rfl
   refine done_ (by kernel_rfl) ?_
   have HS4 := Aside0.mk (Dr.St.below HS3.out hd)
   have HV4 := Aside0.mk (blk_below HV3.out hd)
   clear hHeld hd HS_ HS3 HV3 HZ2
   go_wp2
   have hbs : w0.heap.size ≤ wd.heap.size := HS4.out.1.size
   have hMr := Dr.readsO HS4.out.2.2.2.2
   have hc1 := (Kd.R_reads' HS4.out.2.2.2.2).2.1
   have hMt := Dr.RR_take (m := kk) hMr (by omega)
   obtain ⟨i0_, hi0_, _, hsz_, _⟩ := info_parts info64
   have hcut1 := cut_to (P := Try.prog) 29 64 .i64 Try.underlying29 hi0_ A2 l2.length c2 (kk : Int) (by omega) (by omega) hc1
   obtain ⟨A2_, hcut2, hMd⟩ := Dr.cutdropM (P := Try.prog) hMr hc1 (kk) (by omega) 29 64 Try.underlying29 hi0_ hsz_
   simp only [Int.toNat_natCast] at hcut1
   have hlt_ : (l2.take kk).length = kk := by rw [List.length_take]; omega
   have hld_ : (l2.drop (kk)).length = l2.length - (kk) := List.length_drop
   obtain ⟨yc, hyc_⟩ : ∃ y : List S64, y = [⟨x3, x4, x5, []⟩] := ⟨_, rfl⟩
   have hyc := Aside0.mk hyc_
   have hycl : yc.length ≤ 1 := by rw [hyc_]; exact Nat.le_refl 1
   clear hyc_
   have HS_ : ∀ W, Below wd.heap.size wd W → (W.cell? ⟨g, 2, none⟩ = some (.slice A2 l2.length c2) ∧ W.cell? ⟨g7, 0, none⟩ = some (.int .i64 x3) ∧ W.cell? ⟨g7, 1, none⟩ = some (.int .i64 x4) ∧ W.cell? ⟨g7, 2, none⟩ = some (.int .i64 x5) ∧ W.cell? ⟨g7, 3, none⟩ = some (.slice none 0 0)) := fun W hW => ⟨pw_cell_below hW (blk_cell HS4.out.2.2.1 2), pw_cell_below hW (blk_cell HV4.out 0), pw_cell_below hW (blk_cell HV4.out 1), pw_cell_below hW (blk_cell HV4.out 2), pw_cell_below hW (blk_cell HV4.out 3)⟩
   have hd : Below wd.heap.size wd wd.drew := below_drew1 (Below.refl _ _)
   refine start_ (n := 22) (S := fun w' => w'.cell? ⟨g, 2, none⟩ = some (.slice A2 l2.length c2) ∧ w'.cell? ⟨g7, 0, none⟩ = some (.int .i64 x3) ∧ w'.cell? ⟨g7, 1, none⟩ = some (.int .i64 x4) ∧ w'.cell? ⟨g7, 2, none⟩ = some (.int .i64 x5) ∧ w'.cell? ⟨g7, 3, none⟩ = some (.slice none 0 0)) (ds := [21]) (Mk 22 0) (by kernel_rfl) rfl rfl (HS_ _ hd) (fun hHeld => ?_)
   generalize wd.drew = we at hd hHeld ⊢
   refine pure_ (i := 0) (N := some 51) (v := ?_) (a' := ?_) (Mk 22 1) rfl rfl (by kernel_rfl) (fun _ _ _ h => h) (Or.inl ⟨by rfl, ?_⟩) ?_ ?_
   rotate_left
   ·intro w'
    first | (go_simp; with_reducible rfl) | (go_simp; (try unfold Instr.field); go_simp; (try simp only [asAgg]); go_simp; with_reducible rfl)
   rotate_left
   ·simp only [Act.put, List.setIfInBounds_toArray, List.set_cons_zero, List.set_cons_succ, i64_w, i32_w]
    rfl
   refine pure_ (i := 2) (N := some 53) (v := ?_) (a' := ?_) (Mk 22 5) rfl rfl (by kernel_rfl) (fun _ _ _ h => h) (Or.inl ⟨by rfl, ?_⟩) ?_ ?_
   rotate_left
   ·intro w'
    first | (go_simp; with_reducible rfl) | (go_simp; (try unfold Instr.field); go_simp; (try simp only [asAgg]); go_simp; with_reducible rfl)
   rotate_left
   ·simp only [Act.put, List.setIfInBounds_toArray, List.set_cons_zero, List.set_cons_succ, i64_w, i32_w]
    rfl
   refine pure_ (i := 3) (N := some 54) (v := ?_) (a' := ?_) (Mk 22 13) rfl rfl (by kernel_rfl) (fun _ _ _ h => h) (Or.inl ⟨by rfl, ?_⟩) ?_ ?_
   rotate_left
   ·intro w'
    first | (go_simp; with_reducible rfl) | (go_simp; (try unfold Instr.field); go_simp; (try simp only [asAgg]); go_simp; with_reducible rfl)
   rotate_left
   ·simp only [Act.put, List.setIfInBounds_toArray, List.set_cons_zero, List.set_cons_succ, i64_w, i32_w]
    rfl
   refine pure_ (i := 4) (N := some 55) (v := ?_) (a' := ?_) (Mk 22 29) rfl rfl (by kernel_rfl) (fun _ _ _ h => h) (Or.inl ⟨by rfl, ?_⟩) ?_ ?_
   rotate_left
   ·intro w'
    first | (go_simp; with_reducible rfl) | (go_simp; (try unfold Instr.field); go_simp; (try simp only [asAgg]); go_simp; with_reducible rfl)
   rotate_left
   ·simp only [Act.put, List.setIfInBounds_toArray, List.set_cons_zero, List.set_cons_succ, i64_w, i32_w]
    rfl
   refine take_ (i := 5) (N := some 56) (v := ?_) (a' := ?_) (Mk 22 61) rfl rfl (by kernel_rfl) (fun _ _ _ h => h) (Or.inl ⟨by rfl, ?_⟩) hHeld ?_ ?_
   rotate_left
   ·rintro w' ⟨s0, s1, s2, s3, s4⟩
    go_simp
    with_reducible rfl
   rotate_left
   ·simp only [Act.put, List.setIfInBounds_toArray, List.set_cons_zero, List.set_cons_succ, i64_w, i32_w]
    rfl
   refine pure_ (i := 6) (N := some 57) (v := ?_) (a' := ?_) (Mk 22 125) rfl rfl (by kernel_rfl) (fun _ _ _ h => h) (Or.inl ⟨by rfl, ?_⟩) ?_ ?_
   rotate_left
   ·intro w'
    first | (go_simp; with_reducible rfl) | (go_simp; (try unfold Instr.field); go_simp; (try simp only [asAgg]); go_simp; with_reducible rfl)
   rotate_left
   ·simp only [Act.put, List.setIfInBounds_toArray, List.set_cons_zero, List.set_cons_succ, i64_w, i32_w]
    rfl
   refine pure_ (i := 7) (N := some 58) (v := ?_) (a' := ?_) (Mk 22 253) rfl rfl (by kernel_rfl) (fun _ _ _ h => h) (Or.inl ⟨by rfl, ?_⟩) ?_ ?_
   rotate_left
   ·intro w'
    first | (go_simp; with_reducible rfl) | (go_simp; (try unfold Instr.field); go_simp; (try simp only [asAgg]); go_simp; with_reducible rfl)
   rotate_left
   ·simp only [Act.put, List.setIfInBounds_toArray, List.set_cons_zero, List.set_cons_succ, i64_w, i32_w]
    rfl
   refine take_ (i := 9) (N := some 60) (v := ?_) (a' := ?_) (Mk 22 765) rfl rfl (by kernel_rfl) (fun _ _ _ h => h) (Or.inl ⟨by rfl, ?_⟩) hHeld ?_ ?_
   rotate_left
   ·rintro w' ⟨s0, s1, s2, s3, s4⟩
    go_simp
    with_reducible rfl
   rotate_left
   ·simp only [Act.put, List.setIfInBounds_toArray, List.set_cons_zero, List.set_cons_succ, i64_w, i32_w]
    rfl
   refine pure_ (i := 12) (N := some 63) (v := ?_) (a' := ?_) (Mk 22 4861) rfl rfl (by kernel_rfl) (fun _ _ _ h => h) (Or.inl ⟨by rfl, ?_⟩) ?_ ?_
   rotate_left
   ·intro w'
    first | (go_simp; with_reducible rfl) | (go_simp; (try unfold Instr.field); go_simp; (try simp only [asAgg]); go_simp; with_reducible rfl)
   rotate_left
   ·simp only [Act.put, List.setIfInBounds_toArray, List.set_cons_zero, List.set_cons_succ, i64_w, i32_w]
    rfl
   refine pure_ (i := 13) (N := some 64) (v := ?_) (a' := ?_) (Mk 22 13053) rfl rfl (by kernel_rfl) (fun _ _ _ h => h) (Or.inl ⟨by rfl, ?_⟩) ?_ ?_
   rotate_left
   ·intro w'
    first | (go_simp; with_reducible rfl) | (go_simp; (try unfold Instr.field); go_simp; (try simp only [asAgg]); go_simp; with_reducible rfl)
   rotate_left
   ·simp only [Act.put, List.setIfInBounds_toArray, List.set_cons_zero, List.set_cons_succ, i64_w, i32_w]
    rfl
   refine pure_ (i := 14) (N := some 65) (v := ?_) (a' := ?_) (Mk 22 29437) rfl rfl (by kernel_rfl) (fun _ _ _ h => h) (Or.inl ⟨by rfl, ?_⟩) ?_ ?_
   rotate_left
   ·intro w'
    first | (go_simp; with_reducible rfl) | (go_simp; (try unfold Instr.field); go_simp; (try simp only [asAgg]); go_simp; with_reducible rfl)
   rotate_left
   ·simp only [Act.put, List.setIfInBounds_toArray, List.set_cons_zero, List.set_cons_succ, i64_w, i32_w]
    rfl
   refine take_ (i := 15) (N := some 66) (v := ?_) (a' := ?_) (Mk 22 62205) rfl rfl (by kernel_rfl) (fun _ _ _ h => h) (Or.inl ⟨by rfl, ?_⟩) hHeld ?_ ?_
   rotate_left
   ·rintro w' ⟨s0, s1, s2, s3, s4⟩
    go_simp
    with_reducible rfl
   rotate_left
   ·simp only [Act.put, List.setIfInBounds_toArray, List.set_cons_zero, List.set_cons_succ, i64_w, i32_w]
    rfl
   refine pure_ (i := 16) (N := some 67) (v := ?_) (a' := ?_) (Mk 22 127741) rfl rfl (by kernel_rfl) (fun _ _ _ h => h) (Or.inl ⟨by rfl, ?_⟩) ?_ ?_
   rotate_left
   ·intro w'
    first | (go_simp; with_reducible rfl) | (go_simp; (try unfold Instr.field); go_simp; (try simp only [asAgg]); go_simp; with_reducible rfl)
   rotate_left
   ·simp only [Act.put, List.setIfInBounds_toArray, List.set_cons_zero, List.set_cons_succ, i64_w, i32_w]
    rfl
   refine pure_ (i := 17) (N := some 68) (v := ?_) (a' := ?_) (Mk 22 258813) rfl rfl (by kernel_rfl) (fun _ _ _ h => h) (Or.inl ⟨by rfl, ?_⟩) ?_ ?_
   rotate_left
   ·intro w'
    first | (go_simp; with_reducible rfl) | (go_simp; (try unfold Instr.field); go_simp; (try simp only [asAgg]); go_simp; with_reducible rfl)
   rotate_left
   ·simp only [Act.put, List.setIfInBounds_toArray, List.set_cons_zero, List.set_cons_succ, i64_w, i32_w]
    rfl
   refine join_ (σ := Value × Value × Value) 5 (Mk 22 260095) (fun s_ => [(52, s_.1), (59, s_.2.1), (61, s_.2.2)]) (fun s_ w' => Below wd.heap.size wd w' ∧ Kd.R k64 64 w' (w0.heap.size) (fun k_ => some k_ ≠ s_.2.2.ownBlock) s_.2.1 ([] ++ (l2.take kk)) ∧ Kd.R k64 64 w' (w0.heap.size) (fun k_ => some k_ ≠ s_.2.1.ownBlock) s_.2.2 yc ∧ (∀ k_, s_.2.1.ownBlock = some k_ → wd.heap.size ≤ k_)) ?_ ?_
   rotate_left
   ·intro hCont
    refine two_ (i := 1) (j := 10) (Ni := some 52) (Nj := some 61) (Mk 22 258815) (Mk 22 259837) rfl rfl rfl rfl (by kernel_rfl) (by decide) (by decide) (fun K hK => ?_) (fun K hK => ?_)
    ·skip
     skip
     refine Kd.R_lit_step k64 _ 64 ?hg (N := 52) ?hd (xs := ([] : List (S64))) (inner := []) (ok := fun _ => True) (okp := fun _ => True) ?hr ?hp (fun _ hk => hk) trivial (Below.refl _ _) (Nat.le_refl _) (by simp) ?_; (case hd => rfl); (case hg => rfl); (case hr => first | (go_simp; done) | (go_simp; rfl)); (case hp => exact (Reps.none _ _))
     intro va wa hoA hbA hgA_ hn_
     have hbdA := Dl.bound_new (v := va) hn_ hd.size
     have hA := Kd.R_lower hoA (Nat.le_trans hbs hd.size)
     replace hd := hd.trans (hbA.mono hd.size)
     clear hoA hbA hgA_ hn_ hHeld
     refine hK.out _ _ (HS_ _ hd) (fun hHeld => ?_)
     clear hK K
     refine norm_ (a' := ?_) ?_ ?_
     rotate_left
     ·show Act.put _ (some 52) _ = _
      simp only [Act.put, List.setIfInBounds_toArray, List.set_cons_zero, List.set_cons_succ, i64_w, i32_w]
      rfl
     refine two_ (i := 8) (j := 10) (Ni := some 59) (Nj := some 61) (Mk 22 259071) (Mk 22 259839) rfl rfl rfl rfl (by kernel_rfl) (by decide) (by decide) (fun K hK => ?_) (fun K hK => ?_)
     ·skip
      skip
      refine Kd.R_append_rows_step k64 (w0 := wd) (w0.heap.size) (by rfl) (.tmp 52) (.tmp 58) 29 64 (.agg #[(.int .i64 0), (.int .i64 0), (.int .i64 0), (.slice none 0 0)]) 48 rfl Try.underlying29 info64 rfl (by decide) (by omega) va [] (l2.take kk) _ _ _ (fun _ => True) (fun k_ => k_ < wd.heap.size) rfl rfl ?aO ?aR (fun _ _ h => h) (fun k_ hk => ⟨by first | exact trivial | exact fun e_ => Nat.not_le.2 hk (hbdC k_ e_.symm), fun e_ => Nat.not_le.2 hk (hbdA k_ e_.symm)⟩) ?aF ?aB ?aS ?aL ?_
      (case aR => exact ReadsRow.imp_ hMt hd (fun _ _ hp => Kd.M_below hp hd))
      (case aB => exact hd.mono hbs)
      (case aF => exact (fun _ _ => trivial))
      (case aO => exact hA)
      (case aS => exact Nat.le_trans hbs hd.size)
      (case aL => simp only [List.length_nil]; omega)
      intro vb wb hoB hbB_ hgB hatB
      have hbdB := Dl.bound_at hbdA hd.size hatB
      replace hd := hd.grown hgB hd.size hbdA
      clear hbB_ hgB hatB hHeld hA hbdA
      have hA := hoB
      have hbdA := hbdB
      clear hoB hbdB
      refine hK.out _ _ (HS_ _ hd) (fun hHeld => ?_)
      clear hK K
      refine norm_ (a' := ?_) ?_ ?_
      rotate_left
      ·show Act.put _ (some 59) _ = _
       simp only [Act.put, List.setIfInBounds_toArray, List.set_cons_zero, List.set_cons_succ, i64_w, i32_w]
       rfl
      refine one_ (i := 10) (N := some 61) (Mk 22 260095) rfl rfl (by kernel_rfl) (by decide) (fun K hK => ?_)
      refine Kd.R_lit_step k64 _ 64 ?hg (N := 61) ?hd (xs := ([⟨x3, x4, x5, []⟩] : List S64)) (inner := [.int .i64 x3, .int .i64 x4, .int .i64 x5, .slice none 0 0]) (ok := fun _ => True) (okp := fun _ => True) ?hr ?hp (fun _ hk => hk) trivial (Below.refl _ _) (Nat.le_refl _) (by simp) ?_; (case hd => rfl); (case hg => rfl); (case hr => first | (go_simp; done) | (go_simp; rfl)); (case hp => exact (Reps.c4 (show k64.M _ _ _ (⟨x3, x4, x5, []⟩ : S64) _ from k64_mkM _ _ _ _ (Kd.R_nil _ _ _ _ _)) (Reps.none _ _)))
      intro vc wc hoC hbC hgC_ hn_
      rw [← hyc.out] at hoC
      have hbdC := Dl.bound_new (v := vc) hn_ hd.size
      have hC := Kd.R_mono (Kd.R_lower (Kd.R_new' hoC (Kd.R_lt hA)) (Nat.le_trans hbs hd.size)) (ok' := fun k_ => some k_ ≠ vb.ownBlock) (fun _ h_ => h_.2)
      replace hA := Kd.R_mono (Kd.R_elder' hA (Kd.R_base hoC) hbC) (ok' := fun k_ => some k_ ≠ vc.ownBlock) (fun _ h_ => h_.2)
      replace hd := hd.trans (hbC.mono hd.size)
      clear hoC hbC hgC_ hn_ hHeld
      refine hK.out _ _ (HS_ _ hd) (fun hHeld => ?_)
      clear hK K
      refine norm_ (a' := ?_) ?_ ?_
      rotate_left
      ·show Act.put _ (some 61) _ = _
       simp only [Act.put, List.setIfInBounds_toArray, List.set_cons_zero, List.set_cons_succ, i64_w, i32_w]
       rfl
      exact norm_ (by simp only [putAll, Act.put, List.setIfInBounds_toArray, List.set_cons_zero, List.set_cons_succ]) (hCont (va, vb, vc) _ ⟨hd, hA, hC, hbdA⟩)
     ·skip
      skip
      refine Kd.R_lit_step k64 _ 64 ?hg (N := 61) ?hd (xs := ([⟨x3, x4, x5, []⟩] : List S64)) (inner := [.int .i64 x3, .int .i64 x4, .int .i64 x5, .slice none 0 0]) (ok := fun _ => True) (okp := fun _ => True) ?hr ?hp (fun _ hk => hk) trivial (Below.refl _ _) (Nat.le_refl _) (by simp) ?_; (case hd => rfl); (case hg => rfl); (case hr => first | (go_simp; done) | (go_simp; rfl)); (case hp => exact (Reps.c4 (show k64.M _ _ _ (⟨x3, x4, x5, []⟩ : S64) _ from k64_mkM _ _ _ _ (Kd.R_nil _ _ _ _ _)) (Reps.none _ _)))
      intro vc wc hoC hbC hgC_ hn_
      rw [← hyc.out] at hoC
      have hbdC := Dl.bound_new (v := vc) hn_ hd.size
      have hC := Kd.R_mono (Kd.R_lower (Kd.R_new' hoC (Kd.R_lt hA)) (Nat.le_trans hbs hd.size)) (ok' := fun k_ => some k_ ≠ va.ownBlock) (fun _ h_ => h_.2)
      replace hA := Kd.R_mono (Kd.R_elder' hA (Kd.R_base hoC) hbC) (ok' := fun k_ => some k_ ≠ vc.ownBlock) (fun _ h_ => h_.2)
      replace hd := hd.trans (hbC.mono hd.size)
      clear hoC hbC hgC_ hn_ hHeld
      refine hK.out _ _ (HS_ _ hd) (fun hHeld => ?_)
      clear hK K
      refine norm_ (a' := ?_) ?_ ?_
      rotate_left
      ·show Act.put _ (some 61) _ = _
       simp only [Act.put, List.setIfInBounds_toArray, List.set_cons_zero, List.set_cons_succ, i64_w, i32_w]
       rfl
      refine one_ (i := 8) (N := some 59) (Mk 22 260095) rfl rfl (by kernel_rfl) (by decide) (fun K hK => ?_)
      refine Kd.R_append_rows_step k64 (w0 := wd) (w0.heap.size) (by rfl) (.tmp 52) (.tmp 58) 29 64 (.agg #[(.int .i64 0), (.int .i64 0), (.int .i64 0), (.slice none 0 0)]) 48 rfl Try.underlying29 info64 rfl (by decide) (by omega) va [] (l2.take kk) _ _ _ (fun k_ => some k_ ≠ (vc : Value).ownBlock) (fun k_ => k_ < wd.heap.size) rfl rfl ?aO ?aR (fun _ _ h => h) (fun k_ hk => ⟨by first | exact trivial | exact fun e_ => Nat.not_le.2 hk (hbdC k_ e_.symm), fun e_ => Nat.not_le.2 hk (hbdA k_ e_.symm)⟩) ?aF ?aB ?aS ?aL ?_
      (case aR => exact ReadsRow.imp_ hMt hd (fun _ _ hp => Kd.M_below hp hd))
      (case aB => exact hd.mono hbs)
      (case aF => exact (fun k_ hk => Kd.fresh' (Kd.R_lt hC) k_ hk))
      (case aO => exact hA)
      (case aS => exact Nat.le_trans hbs hd.size)
      (case aL => simp only [List.length_nil]; omega)
      intro vb wb hoB hbB_ hgB hatB
      have hbdB := Dl.bound_at hbdA hd.size hatB
      replace hC := Kd.R_mono (Kd.R_after (ok := (fun _ => True)) (Kd.R_mono hC (fun _ hk => ⟨trivial, hk⟩)) hgB hatB) (ok' := fun k_ => some k_ ≠ vb.ownBlock) (fun _ h_ => h_.2)
      replace hd := hd.grown hgB hd.size hbdA
      clear hbB_ hgB hatB hHeld hA hbdA
      have hA := hoB
      have hbdA := hbdB
      clear hoB hbdB
      refine hK.out _ _ (HS_ _ hd) (fun hHeld => ?_)
      clear hK K
      refine norm_ (a' := ?_) ?_ ?_
      rotate_left
      ·show Act.put _ (some 59) _ = _
       simp only [Act.put, List.setIfInBounds_toArray, List.set_cons_zero, List.set_cons_succ, i64_w, i32_w]
       rfl
      exact norm_ (by simp only [putAll, Act.put, List.setIfInBounds_toArray, List.set_cons_zero, List.set_cons_succ]) (hCont (va, vb, vc) _ ⟨hd, hA, hC, hbdA⟩)
    ·skip
     skip
     refine Kd.R_lit_step k64 _ 64 ?hg (N := 61) ?hd (xs := ([⟨x3, x4, x5, []⟩] : List S64)) (inner := [.int .i64 x3, .int .i64 x4, .int .i64 x5, .slice none 0 0]) (ok := fun _ => True) (okp := fun _ => True) ?hr ?hp (fun _ hk => hk) trivial (Below.refl _ _) (Nat.le_refl _) (by simp) ?_; (case hd => rfl); (case hg => rfl); (case hr => first | (go_simp; done) | (go_simp; rfl)); (case hp => exact (Reps.c4 (show k64.M _ _ _ (⟨x3, x4, x5, []⟩ : S64) _ from k64_mkM _ _ _ _ (Kd.R_nil _ _ _ _ _)) (Reps.none _ _)))
     intro vc wc hoC hbC hgC_ hn_
     rw [← hyc.out] at hoC
     have hbdC := Dl.bound_new (v := vc) hn_ hd.size
     have hC := Kd.R_lower hoC (Nat.le_trans hbs hd.size)
     replace hd := hd.trans (hbC.mono hd.size)
     clear hoC hbC hgC_ hn_ hHeld
     refine hK.out _ _ (HS_ _ hd) (fun hHeld => ?_)
     clear hK K
     refine norm_ (a' := ?_) ?_ ?_
     rotate_left
     ·show Act.put _ (some 61) _ = _
      simp only [Act.put, List.setIfInBounds_toArray, List.set_cons_zero, List.set_cons_succ, i64_w, i32_w]
      rfl
     refine one_ (i := 1) (N := some 52) (Mk 22 259839) rfl rfl (by kernel_rfl) (by decide) (fun K hK => ?_)
     refine Kd.R_lit_step k64 _ 64 ?hg (N := 52) ?hd (xs := ([] : List (S64))) (inner := []) (ok := fun _ => True) (okp := fun _ => True) ?hr ?hp (fun _ hk => hk) trivial (Below.refl _ _) (Nat.le_refl _) (by simp) ?_; (case hd => rfl); (case hg => rfl); (case hr => first | (go_simp; done) | (go_simp; rfl)); (case hp => exact (Reps.none _ _))
     intro va wa hoA hbA hgA_ hn_
     have hbdA := Dl.bound_new (v := va) hn_ hd.size
     have hA := Kd.R_mono (Kd.R_lower (Kd.R_new' hoA (Kd.R_lt hC)) (Nat.le_trans hbs hd.size)) (ok' := fun k_ => some k_ ≠ vc.ownBlock) (fun _ h_ => h_.2)
     replace hC := Kd.R_mono (Kd.R_elder' hC (Kd.R_base hoA) hbA) (ok' := fun k_ => some k_ ≠ va.ownBlock) (fun _ h_ => h_.2)
     replace hd := hd.trans (hbA.mono hd.size)
     clear hoA hbA hgA_ hn_ hHeld
     refine hK.out _ _ (HS_ _ hd) (fun hHeld => ?_)
     clear hK K
     refine norm_ (a' := ?_) ?_ ?_
     rotate_left
     ·show Act.put _ (some 52) _ = _
      simp only [Act.put, List.setIfInBounds_toArray, List.set_cons_zero, List.set_cons_succ, i64_w, i32_w]
      rfl
     refine one_ (i := 8) (N := some 59) (Mk 22 260095) rfl rfl (by kernel_rfl) (by decide) (fun K hK => ?_)
     refine Kd.R_append_rows_step k64 (w0 := wd) (w0.heap.size) (by rfl) (.tmp 52) (.tmp 58) 29 64 (.agg #[(.int .i64 0), (.int .i64 0), (.int .i64 0), (.slice none 0 0)]) 48 rfl Try.underlying29 info64 rfl (by decide) (by omega) va [] (l2.take kk) _ _ _ (fun k_ => some k_ ≠ (vc : Value).ownBlock) (fun k_ => k_ < wd.heap.size) rfl rfl ?aO ?aR (fun _ _ h => h) (fun k_ hk => ⟨by first | exact trivial | exact fun e_ => Nat.not_le.2 hk (hbdC k_ e_.symm), fun e_ => Nat.not_le.2 hk (hbdA k_ e_.symm)⟩) ?aF ?aB ?aS ?aL ?_
     (case aR => exact ReadsRow.imp_ hMt hd (fun _ _ hp => Kd.M_below hp hd))
     (case aB => exact hd.mono hbs)
     (case aF => exact (fun k_ hk => Kd.fresh' (Kd.R_lt hC) k_ hk))
     (case aO => exact hA)
     (case aS => exact Nat.le_trans hbs hd.size)
     (case aL => simp only [List.length_nil]; omega)
     intro vb wb hoB hbB_ hgB hatB
     have hbdB := Dl.bound_at hbdA hd.size hatB
     replace hC := Kd.R_mono (Kd.R_after (ok := (fun _ => True)) (Kd.R_mono hC (fun _ hk => ⟨trivial, hk⟩)) hgB hatB) (ok' := fun k_ => some k_ ≠ vb.ownBlock) (fun _ h_ => h_.2)
     replace hd := hd.grown hgB hd.size hbdA
     clear hbB_ hgB hatB hHeld hA hbdA
     have hA := hoB
     have hbdA := hbdB
     clear hoB hbdB
     refine hK.out _ _ (HS_ _ hd) (fun hHeld => ?_)
     clear hK K
     refine norm_ (a' := ?_) ?_ ?_
     rotate_left
     ·show Act.put _ (some 59) _ = _
      simp only [Act.put, List.setIfInBounds_toArray, List.set_cons_zero, List.set_cons_succ, i64_w, i32_w]
      rfl
     exact norm_ (by simp only [putAll, Act.put, List.setIfInBounds_toArray, List.set_cons_zero, List.set_cons_succ]) (hCont (va, vb, vc) _ ⟨hd, hA, hC, hbdA⟩)
   clear hHeld hd
   rintro ⟨v0_, va, vc⟩ wj ⟨hd, hA, hC, hbdA⟩
   have hHeld := HS_ _ hd
   obtain ⟨Ac_, cc_, ec_⟩ := Kd.R_slice hC
   subst ec_
   refine norm_ (a' := ?_) ?_ ?_
   rotate_left
   ·simp only [putAll, Act.put, List.setIfInBounds_toArray, List.set_cons_zero, List.set_cons_succ]
    rfl
   refine one_ (i := 11) (N := some 62) (Mk 22 262143) rfl rfl (by kernel_rfl) (by decide) (fun K hK => ?_)
   refine Kd.R_append_rows_step k64 (w0 := wd) (w0.heap.size) (by rfl) (.tmp 59) (.tmp 61) 29 64 (.agg #[(.int .i64 0), (.int .i64 0), (.int .i64 0), (.slice none 0 0)]) 48 rfl Try.underlying29 info64 rfl (by decide) (by omega) va ([] ++ (l2.take kk)) yc _ _ _ (fun k_ => some k_ ≠ (.slice Ac_ yc.length cc_ : Value).ownBlock) (fun k_ => some k_ ≠ va.ownBlock ∧ some k_ ≠ (Value.slice Ac_ yc.length cc_).ownBlock) rfl rfl ?aO ?aR (fun _ _ h => h) (fun k_ hk => ⟨hk.2, hk.1⟩) ?aF ?aB ?aS ?aL ?_
   (case aR => exact Dr.readsM hC)
   (case aB => exact hd.mono hbs)
   (case aF => exact (fun k_ hk => Kd.fresh' (Kd.R_lt hC) k_ hk))
   (case aO => exact hA)
   (case aS => exact Nat.le_trans hbs hd.size)
   (case aL => have := hycl; simp only [List.nil_append]; omega)
   intro vb wb hoB hbB_ hgB hatB
   have hbdB := Dl.bound_at hbdA hd.size hatB
   replace hC := Kd.R_mono (Kd.R_after (ok := (fun _ => True)) (Kd.R_mono hC (fun _ hk => ⟨trivial, hk⟩)) hgB hatB) (ok' := fun k_ => some k_ ≠ vb.ownBlock) (fun _ h_ => h_.2)
   replace hd := hd.grown hgB hd.size hbdA
   clear hbB_ hgB hatB hHeld hA hbdA
   have hA := hoB
   have hbdA := hbdB
   clear hoB hbdB
   refine hK.out _ _ (HS_ _ hd) (fun hHeld => ?_)
   clear hK K
   refine norm_ (a' := ?_) ?_ ?_
   rotate_left
   ·show Act.put _ (some 62) _ = _
    simp only [Act.put, List.setIfInBounds_toArray, List.set_cons_zero, List.set_cons_succ, i64_w, i32_w]
    rfl
   replace hA := Kd.R_mono hA (ok' := fun _ => True) (fun _ _ => trivial)
   refine one_ (i := 18) (N := some 69) (Mk 22 524287) rfl rfl (by kernel_rfl) (by decide) (fun K hK => ?_)
   refine Kd.R_append_rows_step k64 (w0 := wd) (w0.heap.size) (by rfl) (.tmp 62) (.tmp 68) 29 64 (.agg #[(.int .i64 0), (.int .i64 0), (.int .i64 0), (.slice none 0 0)]) 48 rfl Try.underlying29 info64 rfl (by decide) (by omega) vb ([] ++ (l2.take kk) ++ yc) (l2.drop kk) _ _ _ (fun _ => True) (fun k_ => k_ < wd.heap.size) rfl rfl ?aO ?aR (fun _ _ h => h) (fun k_ hk => ⟨by first | exact trivial | exact fun e_ => Nat.not_le.2 hk (hbdC k_ e_.symm), fun e_ => Nat.not_le.2 hk (hbdA k_ e_.symm)⟩) ?aF ?aB ?aS ?aL ?_
   (case aR => exact ReadsRow.imp_ hMd hd (fun _ _ hp => Kd.M_below hp hd))
   (case aB => exact hd.mono hbs)
   (case aF => exact (fun _ _ => trivial))
   (case aO => exact hA)
   (case aS => exact Nat.le_trans hbs hd.size)
   (case aL => have := hycl; simp only [List.nil_append, List.length_append]; omega)
   intro vb wb hoB hbB_ hgB hatB
   have hbdB := Dl.bound_at hbdA hd.size hatB
   replace hd := hd.grown hgB hd.size hbdA
   clear hbB_ hgB hatB hHeld
   have hA := hoB
   have hbdA := hbdB
   clear hoB hbdB
   refine hK.out _ _ (HS_ _ hd) (fun hHeld => ?_)
   clear hK K
   refine norm_ (a' := ?_) ?_ ?_
   rotate_left
   ·show Act.put _ (some 69) _ = _
    simp only [Act.put, List.setIfInBounds_toArray, List.set_cons_zero, List.set_cons_succ, i64_w, i32_w]
    rfl
   refine pure_ (i := 19) (N := some 70) (v := ?_) (a' := ?_) (Mk 22 1048575) rfl rfl (by kernel_rfl) (fun _ _ _ h => h) (Or.inl ⟨by rfl, ?_⟩) ?_ ?_
   rotate_left
   ·intro w'
    first | (go_simp; with_reducible rfl) | (go_simp; (try unfold Instr.field); go_simp; (try simp only [asAgg]); go_simp; with_reducible rfl)
   rotate_left
   ·simp only [Act.put, List.setIfInBounds_toArray, List.set_cons_zero, List.set_cons_succ, i64_w, i32_w]
    rfl
   refine pure_ (i := 20) (N := some 71) (v := ?_) (a' := ?_) (Mk 22 2097151) rfl rfl (by kernel_rfl) (fun _ _ _ h => h) (Or.inl ⟨by rfl, ?_⟩) ?_ ?_
   rotate_left
   ·intro w'
    first | (go_simp; with_reducible rfl) | (go_simp; (try unfold Instr.field); go_simp; (try simp only [asAgg]); go_simp; with_reducible rfl)
   rotate_left
   ·simp only [Act.put, List.setIfInBounds_toArray, List.set_cons_zero, List.set_cons_succ, i64_w, i32_w]
    rfl
   obtain ⟨lq, hlq⟩ : ∃ l_ : List S64, l_ = [] ++ l2.take kk ++ yc ++ l2.drop kk := ⟨_, rfl⟩
   rw [← hlq] at hA
   have HLQ := Aside0.mk hlq
   clear hlq
   obtain ⟨AQ, cQ, eQ⟩ := Kd.R_slice hA
   subst eQ
   have HS8 := Aside0.mk (Dr.St.below HS4.out hd)
   have y1 := blk_cell HS8.out.2.2.1 2
   have f1 := blk_frozen HS8.out.2.2.1 2
   refine last_ (i := 21) (N := none) (Mk 22 4194303) rfl rfl (by kernel_rfl) (by decide) (fun K hK => ?_)
   refine skip_ (w1 := ?_) (by rfl) rfl ?_ ?_
   rotate_left
   ·go_simp
    rfl
   refine hK.out _ _ ?_
   clear hK K
   refine done_ (by kernel_rfl) ?_
   have HS9 := Aside0.mk (Dr.St.new2 HS8.out hA)
   clear hHeld y1 f1 hd hbdA HS_
   go_wp2
   go_ret
   refine ⟨_, _, _, rfl, HS9.out, ?_, ?_⟩
   ·have := hycl
    rw [HLQ.out]
    simp only [List.length_append, List.length_nil, hlt_, hld_]
    omega
   ·intro y hy
    rw [HLQ.out, hyc.out] at hy
    simp only [List.nil_append, List.mem_append, List.mem_singleton] at hy
    rcases hy with (hy | rfl) | hy
    ·exact HM.out y (List.mem_of_mem_take hy)
    ·exact Nat.zero_le _
    ·exact HM.out y (List.mem_of_mem_drop hy)
end Go.Proofs.Ytfmlhpoaipeoeaa.QFnDeltas
