/- WHAT THIS TEXT HOLDS: an argument that reads as a datum is of the kind that the printed walks speak of, type by type: whole numbers, bools, strings, slices, structs. No condition. -/
import Derived.Test.YtfmlhpoaipeoeaaDoorWWords
import Derived.Deep.Slices
import Derived.ChangeArms
import Derived.WideShapes
namespace Go.Proofs.YtfmlhpoaipeoeaaDoor.Open
open Go.ChangeShapes Go.WideShapes Go.RowKit Go.Proofs.YtfmlhpoaipeoeaaDoorW.PrintWords

/-- Whatever reads as a datum of type t is of the kind d, and Q holds of it. -/
def Opens {α : Type} (P : Program) (t : TypeId) (d : Kd α) (Q : α → Prop) : Prop :=
  ∀ (H : Type) (enc : TypeId × Value → H) (w : World) (base : Nat) (spare : Nat → Bool) (held : Bool) (fuel : Nat) (cs : List Value) (x : DataW H × List MemPlace),
    DataW.trod enc P w base spare held fuel t cs = some x → ∃ a : α, d.K w a cs ∧ Q a

section
variable {P : Program} {t : TypeId}
theorem opens_int {k : IntKind} (ht : P.underlying t = some (.int k)) : Opens P t (Kd.int k) (fun n => (Lit.int k n).wf = true) := by
  intro H enc w base spare held fuel cs x h
  obtain ⟨n, rfl, _, hw⟩ := DataW.trod_int ht h
  exact ⟨n, rfl, hw⟩
theorem opens_bool (ht : P.underlying t = some .bool) : Opens P t Kd.bool (fun _ => True) := by
  intro H enc w base spare held fuel cs x h
  obtain ⟨b, rfl, _⟩ := DataW.trod_bool ht h
  exact ⟨b, rfl, trivial⟩
theorem opens_string (ht : P.underlying t = some .string) : Opens P t Kd.string (fun s => s.size ≤ maxLen) := by
  intro H enc w base spare held fuel cs x h
  obtain ⟨s, rfl, _, hs⟩ := DataW.trod_string ht h
  exact ⟨s, rfl, hs⟩
theorem opens_slice {α : Type} [Inhabited α] {e : TypeId} {d : Kd α} {Q : α → Prop} (ht : P.underlying t = some (.slice e)) (hsz : P.cellsOf e = d.sz) (he : Opens P e d Q) :
    Opens P t (Kd.slice e d) (fun xs => ∀ x ∈ xs, Q x) := by
  intro H enc w base spare held fuel cs x h
  rcases Go.Deep.open_slice ht h with ⟨rfl, _⟩ | ⟨a, len, cap, m, n, D, Pl, rfl, hb, hl, hm, hmm, _, hi⟩
  · exact ⟨[], ⟨none, 0, rfl, by simp, rfl, by simp, fun h0 => absurd h0 (by simp)⟩, fun x hx => by cases hx⟩
  · have hlm : len ≤ m := by rw [hmm]; split <;> omega
    obtain ⟨f, hf⟩ := Go.Deep.choose_lt (α := α) (n := len) (p := fun i v => (∃ cs', w.cells? base (a.add (i * P.cellsOf e)) (P.cellsOf e) = some cs' ∧ d.K w v cs') ∧ Q v) (fun i hil => by
      obtain ⟨cs', h1, h2⟩ := hi i (by omega)
      obtain ⟨v, hK, hQ⟩ := he H enc w base spare held n cs' _ h2
      exact ⟨v, ⟨cs', h1, hK⟩, hQ⟩)
    have hlen : ((List.range len).map f).length = len := by simp
    refine ⟨(List.range len).map f, ⟨some a, cap, by rw [hlen], by rw [hlen]; exact hl, ?_⟩, ?_⟩
    · refine ⟨rfl, ?_, fun _ => ⟨a, rfl, fun j p hj => ?_⟩⟩
      · rw [hlen]; simp only [maxLen] at hm; omega
      · have hjl : j < len := by
          have := (List.getElem?_eq_some_iff.1 hj).1
          rwa [hlen] at this
        have hp : p = f j := by
          simp [hjl] at hj
          exact hj.symm
        subst hp
        obtain ⟨⟨cs', h1, hK⟩, _⟩ := hf j hjl
        obtain ⟨_, hl', hat⟩ := World.cells?_some h1
        rw [hsz] at hl' hat
        refine ⟨cs', hl', hK, fun i u hu => ?_⟩
        have hil : i < d.sz := by
          have := (List.getElem?_eq_some_iff.1 hu).1
          omega
        rw [← Go.Deep.add_add, hat i hil]
        exact hu
    · intro x hx
      obtain ⟨i, hi', rfl⟩ := List.mem_map.1 hx
      exact (hf i (List.mem_range.1 hi')).2
theorem opens_sliceL {α : Type} [Inhabited α] {e : TypeId} {d : Kd α} {Q : α → Prop} (ht : P.underlying t = some (.slice e)) (hsz : P.cellsOf e = d.sz) (he : Opens P e d Q) :
    Opens P t (Kd.slice e d) (fun xs => xs.length ≤ maxLen ∧ ∀ x ∈ xs, Q x) := by
  intro H enc w base spare held fuel cs x h
  obtain ⟨a, hK, hQ⟩ := opens_slice ht hsz he H enc w base spare held fuel cs x h
  refine ⟨a, hK, ?_, hQ⟩
  obtain ⟨A, c, _, _, hr⟩ := hK
  have := hr.2.1
  simp only [maxLen]; omega

/-- The fields of a struct from the cell off on. -/
def OpensAt {α : Type} (P : Program) (fs : Array Field) (L off : Nat) (d : Kd α) (Q : α → Prop) : Prop :=
  ∀ (H : Type) (enc : TypeId × Value → H) (w : World) (base : Nat) (spare : Nat → Bool) (held : Bool) (n : Nat) (cs : List Value) (xs : List (DataW H × List MemPlace)), cs.length = L → xs.length = fs.size →
    (∀ (i : Nat) (f : Field), fs[i]? = some f → DataW.trod enc P w base spare held n f.type ((cs.drop f.offset).take (P.cellsOf f.type)) = xs[i]?) → ∃ a : α, d.K w a (cs.drop off) ∧ Q a

theorem opensAt_field {α : Type} {fs : Array Field} {d : Kd α} {Q : α → Prop} {i : Nat} {f : Field} (hf : fs[i]? = some f) (h : Opens P f.type d Q)
    {H : Type} {enc : TypeId × Value → H} {w : World} {base : Nat} {spare : Nat → Bool} {held : Bool} {n : Nat} {cs : List Value} {xs : List (DataW H × List MemPlace)} (hx : xs.length = fs.size)
    (hg : ∀ (i : Nat) (f : Field), fs[i]? = some f → DataW.trod enc P w base spare held n f.type ((cs.drop f.offset).take (P.cellsOf f.type)) = xs[i]?) :
    ∃ a : α, d.K w a ((cs.drop f.offset).take (P.cellsOf f.type)) ∧ Q a := by
  have h1 := hg i f hf
  have hi : i < xs.length := by rw [hx]; exact (Array.getElem?_eq_some_iff.1 hf).1
  rw [List.getElem?_eq_getElem hi] at h1
  exact h H enc w base spare held n _ _ h1
theorem opensAt_last {α : Type} {fs : Array Field} {L off i : Nat} {d : Kd α} {Q : α → Prop} {f : Field} (hf : fs[i]? = some f) (ho : f.offset = off) (hL : off + P.cellsOf f.type = L) (h : Opens P f.type d Q) : OpensAt P fs L off d Q := by
  intro H enc w base spare held n cs xs hc hx hg
  obtain ⟨a, hK, hQ⟩ := opensAt_field hf h hx hg
  rw [ho, List.take_of_length_le (by rw [List.length_drop]; omega)] at hK
  exact ⟨a, hK, hQ⟩
theorem opensAt_cons {α β : Type} {fs : Array Field} {L off off' i : Nat} {d : Kd α} {Q : α → Prop} {d' : Kd β} {Q' : β → Prop} {f : Field} (hf : fs[i]? = some f) (ho : f.offset = off) (hn : off + P.cellsOf f.type = off')
    (h : Opens P f.type d Q) (hr : OpensAt P fs L off' d' Q') : OpensAt P fs L off (Kd.pair d d') (fun x => Q x.1 ∧ Q' x.2) := by
  intro H enc w base spare held n cs xs hc hx hg
  obtain ⟨a, hK, hQ⟩ := opensAt_field hf h hx hg
  obtain ⟨b, hK', hQ'⟩ := hr H enc w base spare held n cs xs hc hx hg
  rw [ho] at hK
  refine ⟨(a, b), ⟨_, _, ?_, hK, hK'⟩, hQ, hQ'⟩
  rw [← hn, ← List.drop_drop, List.take_append_drop]
theorem opens_struct {α : Type} {fs : Array Field} {L : Nat} {d : Kd α} {Q : α → Prop} (ht : P.underlying t = some (.struct fs)) (hL : P.cellsOf t = L) (h : OpensAt P fs L 0 d Q) : Opens P t d Q := by
  intro H enc w base spare held fuel cs x hx
  obtain ⟨xs, n, _, _, hc, hl, hg⟩ := DataW.trod_struct ht hx
  obtain ⟨a, hK, hQ⟩ := h H enc w base spare held n cs xs (hc.trans hL) hl hg
  exact ⟨a, by simpa using hK, hQ⟩
theorem opens_iso {α β : Type} {d : Kd α} {Q : α → Prop} (f : β → α) (g : α → β) (hfg : ∀ a, f (g a) = a) (h : Opens P t d Q) : Opens P t (Kd.iso d f) (fun b => Q (f b)) := by
  intro H enc w base spare held fuel cs x hx
  obtain ⟨a, hK, hQ⟩ := h H enc w base spare held fuel cs x hx
  refine ⟨g a, ?_, ?_⟩
  · show d.K w (f (g a)) cs
    rw [hfg]; exact hK
  · show Q (f (g a))
    rw [hfg]; exact hQ
end
end Go.Proofs.YtfmlhpoaipeoeaaDoor.Open
