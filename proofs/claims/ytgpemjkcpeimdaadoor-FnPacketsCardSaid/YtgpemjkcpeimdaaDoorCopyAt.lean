/- WHAT THIS TEXT PROVES: copy(out[10:12], two), out a row of whole numbers of the call's own: cells 10 and 11 are the two then. Of any program; no condition. -/
import Derived.Deep.RegionLaw
import Derived.Deep.RegionWith
import Derived.Laws.CopyOwn
import Derived.Test.YtgpemjkcpeimdaaDoorProg
import Derived.Test.YtgpemjkcpeimdaaDoorWWords
namespace Go.Proofs.YtgpemjkcpeimdaaDoor.CopyAt
open Go.RowKit Go.Proofs.YtgpemjkcpeimdaaDoorW.PrintWords Go.Proofs.YtgpemjkcpeimdaaDoorW.PrintWords.Kd

/-- A row of one's own, of twelve elements or more: where it lies, and its cut [10:12]. -/
theorem cut_at {P : Program} {k : IntKind} {W : World} {base : Nat} {ok : Nat → Prop} {A : Option Addr} {c : Nat} {xs : List Int} {e : Nat} (t : TypeId) {i : TypeInfo} (ht : P.underlying t = some (.slice e)) (hi : P.info? e = some i) (hsz : i.size = 1)
    (HO : (Kd.int k).R e W base ok (.slice A xs.length c) xs) (hn : 12 ≤ xs.length) :
    ∃ g, A = some ⟨g, 0, none⟩ ∧ base ≤ g ∧ (∀ W : World, (Instr.slice t (.slice (some ⟨g, 0, none⟩) xs.length c) (some (.int .i64 10)) (some (.int .i64 12)) none).run P W = .ok (.slice (some ⟨g, 10, none⟩) 2 (c - 10)) W) ∧ xs.length ≤ c := by
  have hown := own_of_R HO
  rcases hown.2 with ⟨hv, hx0⟩ | ⟨g, cap, cur, hv, hb, hh, hnc, hcm, hcs, htake⟩
  · omega
  · simp only [Value.slice.injEq] at hv
    obtain ⟨rfl, _, rfl⟩ := hv
    refine ⟨g, rfl, hb, fun W => ?_, hnc⟩
    have hel : P.elem t = e := by simp [Program.elem, ht]
    have hu : P.underlying t = some (.slice (P.elem t)) := by rw [hel]; exact ht
    rw [run_slice_lh W t (some ⟨g, 0, none⟩) xs.length c hu .i64 .i64 10 12 (by omega) (by omega) (by omega), hel]
    have : (some (Addr.mk g 0 none)).map (fun a => a.add 10) = some (⟨g, 10, none⟩ : Addr) := by simp [Addr.add]
    have hc10 : ¬ c = 10 := by omega
    simp [sizeOf, typeInfo, hi, hsz, sliced, Result.andThen, this, hc10]

theorem splice_take {α : Type} (L E : List α) (i n m : Nat) (hE : E.length = m) (h : i + m ≤ n) (hn : n ≤ L.length) : (L.take i ++ E ++ L.drop (i + m)).take n = (L.take n).take i ++ (E ++ (L.take n).drop (i + m)) := by
  have h1 : (L.take i ++ E).length = i + m := by rw [List.length_append, List.length_take, hE]; omega
  rw [List.take_append, h1, List.take_of_length_le (by omega), List.take_take, Nat.min_eq_left (by omega), List.drop_take, List.append_assoc]
theorem step_copy_at {P : Program} {ops : Array Oper} {o : Oper} {a : Act} {K : Act → World → Prop} {Q : Exit → Act → World → Prop} {E : Prop} {k : IntKind} {w0 W : World} (base : Nat) (hgd : o.guard = none) (s x : Operand) (t e : TypeId)
    (ho : o.op = .call { callee := .builtin .copy, args := #[s, x], argTypes := #[t, t] }) (ht : P.underlying t = some (.slice e)) (hinfo : (P.info? e).map (·.size) = some 1)
    (g i cap dcap : Nat) (xs ys : List Int) (A : Option Addr) (c : Nat) (ok : Nat → Prop) (hs : a.eval s = .slice (some ⟨g, i, none⟩) ys.length dcap) (hx : a.eval x = .slice A ys.length c) (hy : 0 < ys.length) (hfit : i + ys.length ≤ xs.length)
    (HO : (Kd.int k).R e W base ok (.slice (some ⟨g, 0, none⟩) xs.length cap) xs) (HR : (Kd.int k).C W A ys.length ys) (HB : Below base w0 W) (hbase : base ≤ W.heap.size)
    (h : ∀ w1, (Kd.int k).R e w1 base ok (.slice (some ⟨g, 0, none⟩) xs.length cap) (xs.take i ++ (ys ++ xs.drop (i + ys.length))) → Below base w0 w1 → W.grownBy w1 (some g) → K (a.put o.dst (.int .i64 (ys.length : Nat))) w1) :
    if Region.wanted o (yielded ops a.tmps) = true then Oper.wp P o a W K Q else E := by
  have hw : Region.wanted o (yielded ops a.tmps) = true := by simp [Region.wanted, hgd]
  rw [if_pos hw]
  have hR := reads_of_C (enc := Value.int k) (d := (0 : Int)) (h1 := fun _ => rfl) HR
  have hown := own_of_R HO
  rcases hown.2 with ⟨hv, _⟩ | ⟨g', cap', cur, hv, hb, hh, hnc, hcm, hcs, htake⟩
  · simp at hv
  · simp only [Value.slice.injEq, Option.some.injEq, Addr.mk.injEq] at hv
    obtain ⟨⟨rfl, _⟩, _, rfl⟩ := hv
    obtain ⟨ad, hA, hc⟩ := hR.2.2 hy
    have hcs1 : cur.size = cap := by omega
    have hsrc : ∀ j u, (encs (Value.int k) ys)[j]? = some u → W.cell? (ad.add j) = some u := by
      intro j u hu
      have hj : j < ys.length := by
        rcases Nat.lt_or_ge j ys.length with h | h
        · exact h
        · rw [List.getElem?_eq_none (by rw [encs_length]; exact h)] at hu
          cases hu
      rw [encs_get (d := 0) _ j hj] at hu
      rw [hc j hj, ← hu]
    have hkl : (encs (Value.int k) ys).length = ys.length := encs_length _
    have hr := run_copy_cells (P := P) W t t o.type e g i ys.length dcap ad ys.length c (encs (Value.int k) ys) ht hinfo (by rw [hkl]; exact (Nat.min_self _).symm) hsrc
      (fun j hj => by rw [cell_of_row W g _ cur e (0, 0) hh]; simp; omega) (fun j _ => blk_frozen hh _) (by intro u hu; simp only [encs, List.mem_map] at hu; obtain ⟨q, _, rfl⟩ := hu; rfl)
    obtain ⟨cur', h3, h4, h5⟩ := setCells_row (encs (Value.int k) ys) i W cur hh (by rw [hkl]; omega)
    obtain ⟨s1, s2, s3, s4⟩ := setCells_same g (encs (Value.int k) ys) i W
    have hg : W.grownBy (W.setCells g i (encs (Value.int k) ys)) (some g) := ⟨s1, s2, s3, by rw [s4]; exact Nat.le_refl _, fun k' _ hk => setCells_far _ _ k' (fun he => hk (by rw [he]))⟩
    unfold Oper.wp execOp
    simp only [ho, resolve, invoke, builtin, Sem.run_bind, Sem.run_pure, Result.andThen_ok, List.map_toArray, List.map_cons, List.map_nil, hs, hx, hA, hr]
    have hln : (xs.take i ++ (ys ++ xs.drop (i + ys.length))).length = xs.length := by
      simp only [List.length_append, List.length_take, List.length_drop]
      omega
    have hgo : goInt ((encs (Value.int k) ys).length : Nat) = Value.int .i64 (ys.length : Nat) := by rw [hkl]; rfl
    rw [hgo]
    refine h _ (R_of_own ?_ HO.1) (HB.grown hg hbase (own_base hown)) hg
    refine ⟨by rw [encs_length, Nat.mul_one], .inr ⟨g, cap, cur', by rw [hln], hb, h3, by rw [hln]; exact hnc, hcm, by rw [h4, hcs], ?_⟩⟩
    rw [h5, hkl, hln]
    have htk : cur.toList.take xs.length = encs (Value.int k) xs := by rw [← htake, Nat.mul_one]
    have e1 : encs (Value.int k) (xs.take i ++ (ys ++ xs.drop (i + ys.length))) = (encs (Value.int k) xs).take i ++ (encs (Value.int k) ys ++ (encs (Value.int k) xs).drop (i + ys.length)) := by simp [encs]
    rw [e1, ← htk, Nat.mul_one]
    have hcl : xs.length ≤ cur.toList.length := by simp; omega
    exact splice_take cur.toList (encs (Value.int k) ys) i xs.length ys.length hkl hfit hcl
end Go.Proofs.YtgpemjkcpeimdaaDoor.CopyAt
