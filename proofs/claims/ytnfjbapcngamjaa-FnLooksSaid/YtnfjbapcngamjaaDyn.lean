/- WHAT THIS TEXT PROVES: a call through a function value that lies in a place, as an arm of a walk; clear(s) of a cut of a row of the call's own: what stands ahead of the cut is as it was. Of any program; no condition. -/
import Derived.Lib.SliceRun
import Derived.Laws.IdiomCopy
import Derived.Test.YtnfjbapcngamjaaProg
import Derived.Test.YtnfjbapcngamjaaWWords
import Derived.Test.YtnfjbapcngamjaaWLast
import Derived.Test.YtnfjbapcngamjaaWMore
import Derived.Test.YtnfjbapcngamjaaWKept
namespace Go.Proofs.Ytnfjbapcngamjaa.Dyn
open Go.RowKit Go.Proofs.YtnfjbapcngamjaaW.PrintWords Go.Proofs.YtnfjbapcngamjaaW.PrintLast Go.Proofs.YtnfjbapcngamjaaW.PrintMore
section
variable {P : Program} {ops : Array Oper} {Q : Nat → Act → World → Prop}
end
section
variable {P : Program} {Q : Exit → Act → World → Prop} {ops : Array Oper}
/-- The operation is a call through the function value in this place. -/
theorem gate_fn {o : Oper} {rest : List Oper} {a : Act} {W : World} {p : Tmp} {ax : Array Operand} {ts : Array TypeId} (_ho : o.op = .call { callee := .value (.tmp p), args := ax, argTypes := ts }) (h : wpList P ops Q (o :: rest) a W) : wpList P ops Q (o :: rest) a W := h
/-- A call through a function value, in a plain region. -/
theorem goesF_ {rest : List Oper} {oi : Oper} {a : Act} {w : World} (N : Option Tmp) (hd : oi.dst = N) (hg : oi.guard = none) {f : FuncId} {fn : Func} {p : Tmp} {ax : Array Operand} {ts : Array TypeId} (hf : P.funcs[f]? = some fn) (hname : (fn.name == "runtime.NumGoroutine") = false) (hb : fn.body.isSome = true) (vs lb : Array Value)
    (hop : oi.op = .call { callee := .value (.tmp p), args := ax, argTypes := ts }) (hv : a.eval (.tmp p) = .func (.func f) #[] lb) (hargs : ax.map a.eval = vs)
    (h : Calls P f (vs ++ lb) w fun e w' => ∃ v, e = .returned v ∧ wpList P ops Q rest (a.put N v) w') : wpList P ops Q (oi :: rest) a w := by
  refine wpList_plain hg fun K hK => ?_
  have he := enters_ hf hname hb (vs ++ lb) w
  have hrun : (execOp a.eval oi).run P w = .ok (.enter f (vs ++ lb)) w := by
    unfold execOp
    simp [hop, resolve, Deferred.ofValue, invoke, hv, hargs, he]
  unfold Oper.wp
  rw [hrun, Oper.upon_enter]
  refine h.mono fun e w'' hh => ?_
  obtain ⟨v, rfl, hk⟩ := hh
  subst hd
  exact hK _ _ hk
end
/-- The cells of a row of the call's own, from the m-th element on, take whatever values: the first m elements are as they were. -/
theorem R_clear {α : Type} {d : Kd α} {e : Nat} {W : World} {base : Nat} {ok : Nat → Prop} {g n c : Nat} {xs : List α} (h : d.R e W base ok (.slice (some ⟨g, 0, none⟩) n c) xs) (m : Nat) (hm : m ≤ xs.length) (zs : List Value) (hz : m * d.sz + zs.length ≤ n * d.sz) :
    d.R e (W.setCells g (m * d.sz) zs) base ok (.slice (some ⟨g, 0, none⟩) m c) (xs.take m) ∧ W.grownBy (W.setCells g (m * d.sz) zs) (some g) := by
  obtain ⟨s1, s2, s3, s4⟩ := setCells_same g zs (m * d.sz) W
  refine ⟨?_, ⟨s1, s2, s3, by rw [s4]; exact Nat.le_refl _, fun k' _ hk => setCells_far _ _ k' (fun he => hk (by rw [he]))⟩⟩
  obtain ⟨n0, rfl⟩ : ∃ n0, n = n0 := ⟨n, rfl⟩
  have hn : n = xs.length := (Kd.R_reads' h).1
  obtain ⟨h0, inner, ho, hr⟩ := Kd.R_take h hm
  refine ⟨h0, inner, ?_, hr.imp_ (fun _ _ hp => Kd.M_step hp (fun k hk _ => setCells_far _ _ k (fun he => hk.2 (by rw [he]; rfl))))⟩
  obtain ⟨hl, ⟨hv, _⟩ | ⟨g', cap, cur, hv, hb, hh, hnc, hcm, hcs, htake⟩⟩ := ho
  · simp at hv
  · simp only [Value.slice.injEq, Option.some.injEq, Addr.mk.injEq] at hv
    obtain ⟨⟨rfl, _⟩, _, rfl⟩ := hv
    obtain ⟨_, inner2, ho2, _⟩ := h
    obtain ⟨_, ⟨hv2, _⟩ | ⟨g2, cap2, cur2, hv2, _, hh2, hnc2, _, hcs2, _⟩⟩ := ho2
    · simp at hv2
    · simp only [Value.slice.injEq, Option.some.injEq, Addr.mk.injEq] at hv2
      obtain ⟨⟨rfl, _⟩, _, rfl⟩ := hv2
      have hroom : n * d.sz ≤ cur.size := by rw [hcs]; exact Nat.mul_le_mul_right _ (by rw [hn]; exact hnc2)
      obtain ⟨cur', h3, h4, h5⟩ := setCells_row zs (m * d.sz) W cur hh (by omega)
      refine ⟨hl, .inr ⟨g, c, cur', by rw [List.length_take, Nat.min_eq_left hm], hb, h3, hnc, hcm, by rw [h4, hcs], ?_⟩⟩
      rw [h5, List.append_assoc, List.length_take, Nat.min_eq_left hm]
      rw [List.length_take, Nat.min_eq_left hm] at htake
      rw [← htake, List.take_append]
      have hx : (cur.toList.take (m * d.sz)).length = m * d.sz := by rw [List.length_take, Array.length_toList]; omega
      rw [hx, Nat.sub_self, List.take_zero, List.append_nil, List.take_take, Nat.min_self]
/-- clear(s), s a cut of a row (two cells an element): some cells are written, just those of the cut. -/
theorem run_clear2 {P : Program} (w : World) (t e ty : TypeId) (z1 z2 : Value) (ht : P.underlying t = some (.slice e)) (hv : ∀ w, (zeroValue e).run P w = .ok (.agg #[z1, z2]) w) (h1 : z1.oneCell' = true) (h2 : z2.oneCell' = true) (b o n c : Nat) (hn : 0 < n)
    (hc : ∀ j, j < 2 * n → (w.cell? ⟨b, o + j, none⟩).isSome = true) (hf : ∀ j, j < 2 * n → w.frozen? ⟨b, o + j, none⟩ = false) :
    ∃ zs : List Value, zs.length = 2 * n ∧ (Builtin.clear_ #[t] ty #[.slice (some ⟨b, o, none⟩) n c]).run P w = .ok (.tuple #[]) (w.setCells b o zs) := by
  have hcl : (Value.agg #[z1, z2]).cells = #[z1, z2] := by simp [Value.cells]
  have hlen : (Builtin.zeroCells (Value.agg #[z1, z2]).cells n).toList.length = 2 * n := by
    rw [hcl]; simp [Builtin.zeroCells]; omega
  have hmem : ∀ v ∈ (Builtin.zeroCells (Value.agg #[z1, z2]).cells n).toList, v.oneCell' = true := by
    rw [hcl]
    intro v hv'
    simp [Builtin.zeroCells] at hv'
    obtain ⟨k, hk, rfl⟩ := hv'
    have : k % 2 = 0 ∨ k % 2 = 1 := by omega
    rcases this with h | h <;> simp [h, h1, h2]
  refine ⟨_, hlen, ?_⟩
  have hst := run_storeCells_cells (P := P) b o (Builtin.zeroCells (Value.agg #[z1, z2]).cells n).toList 0 w (by rw [hlen]; simpa using hc) (by rw [hlen]; simpa using hf) hmem
  simp only [Nat.add_zero] at hst
  obtain ⟨m, rfl⟩ : ∃ m, n = m + 1 := ⟨n - 1, by omega⟩
  simp only [Builtin.clear_]
  simp [run_underlying ht, hv, hst]
end Go.Proofs.Ytnfjbapcngamjaa.Dyn
