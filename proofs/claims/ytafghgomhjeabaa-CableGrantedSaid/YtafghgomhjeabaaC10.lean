/- cable: the rows cable: cells of narrow integers -/
import Derived.Test.YtafghgomhjeabaaC9
import Derived.Test.YtafghgomhjeabaaJ3
import Derived.Test.YtafghgomhjeabaaRows
import Derived.Test.YtafghgomhjeabaaProg
set_option linter.unusedVariables false
set_option linter.unusedSimpArgs false
namespace Go.Proofs
open Go Go.J Go.RowKit Go.Cab
set_option maxRecDepth 4096
set_option linter.unusedSimpArgs false
set_option linter.unusedVariables false
theorem laidOut : laidOutB Try.prog = true := by kernel_rfl

theorem cells2 : Program.cellsOf Try.prog 2 = 1 := by kernel_rfl
theorem cells3 : Program.cellsOf Try.prog 3 = 1 := by kernel_rfl
theorem cells23 : Program.cellsOf Try.prog 23 = 2 := by kernel_rfl
theorem cells24 : Program.cellsOf Try.prog 24 = 1 := by kernel_rfl
theorem cells26 : Program.cellsOf Try.prog 26 = 3 := by kernel_rfl
theorem cells40 : Program.cellsOf Try.prog 40 = 8 := by kernel_rfl
theorem open23 {H : Type} {enc : TypeId × Value → H} {w : World} {base : Nat} {spare : Nat → Bool} {held : Bool} : ∀ n cs y, DataW.trod enc Try.prog w base spare held n 23 cs = some y → ∃ d : Span, cs = Span.enc d ∧ True := by
  intro n cs y h
  obtain ⟨xs, m, _, _, hl, hxl, hf⟩ := DataW.trod_struct Try.underlying23 h
  rw [cells23] at hl
  obtain ⟨z0, hz0⟩ := get_lt (xs := xs) (i := 0) (by rw [hxl]; decide)
  have f0 : DataW.trod enc Try.prog w base spare held m 2 (List.take (Program.cellsOf Try.prog 2) (List.drop 0 cs)) = some z0 := (hf 0 _ rfl).trans hz0
  rw [cells2] at f0
  obtain ⟨d0, e0, _⟩ := open_intE Try.underlying2 _ _ _ f0
  obtain ⟨z1, hz1⟩ := get_lt (xs := xs) (i := 1) (by rw [hxl]; decide)
  have f1 : DataW.trod enc Try.prog w base spare held m 2 (List.take (Program.cellsOf Try.prog 2) (List.drop 1 cs)) = some z1 := (hf 1 _ rfl).trans hz1
  rw [cells2] at f1
  obtain ⟨d1, e1, _⟩ := open_intE Try.underlying2 _ _ _ f1
  match cs, hl with
  | [c0, c1], _ =>
    simp only [enK, enB, enS, List.drop_succ_cons, List.drop_zero, List.take_succ_cons, List.take_zero, List.cons.injEq, and_true] at e0 e1
    refine ⟨⟨d0, d1⟩, ?_, trivial⟩
    simp [Span.enc, e0, e1]
theorem open40 {H : Type} {enc : TypeId × Value → H} {w : World} {base : Nat} {spare : Nat → Bool} {held : Bool} : ∀ n cs y, DataW.trod enc Try.prog w base spare held n 40 cs = some y → ∃ d : Nd, cs = Nd.enc d ∧ True := by
  intro n cs y h
  obtain ⟨xs, m, _, _, hl, hxl, hf⟩ := DataW.trod_struct Try.underlying40 h
  rw [cells40] at hl
  obtain ⟨z0, hz0⟩ := get_lt (xs := xs) (i := 0) (by rw [hxl]; decide)
  have f0 : DataW.trod enc Try.prog w base spare held m 3 (List.take (Program.cellsOf Try.prog 3) (List.drop 0 cs)) = some z0 := (hf 0 _ rfl).trans hz0
  rw [cells3] at f0
  obtain ⟨d0, e0, _⟩ := open_intE Try.underlying3 _ _ _ f0
  obtain ⟨z1, hz1⟩ := get_lt (xs := xs) (i := 1) (by rw [hxl]; decide)
  have f1 : DataW.trod enc Try.prog w base spare held m 23 (List.take (Program.cellsOf Try.prog 23) (List.drop 1 cs)) = some z1 := (hf 1 _ rfl).trans hz1
  rw [cells23] at f1
  obtain ⟨d1, e1, _⟩ := open23 _ _ _ f1
  obtain ⟨z2, hz2⟩ := get_lt (xs := xs) (i := 2) (by rw [hxl]; decide)
  have f2 : DataW.trod enc Try.prog w base spare held m 2 (List.take (Program.cellsOf Try.prog 2) (List.drop 3 cs)) = some z2 := (hf 2 _ rfl).trans hz2
  rw [cells2] at f2
  obtain ⟨d2, e2, _⟩ := open_intE Try.underlying2 _ _ _ f2
  obtain ⟨z3, hz3⟩ := get_lt (xs := xs) (i := 3) (by rw [hxl]; decide)
  have f3 : DataW.trod enc Try.prog w base spare held m 23 (List.take (Program.cellsOf Try.prog 23) (List.drop 4 cs)) = some z3 := (hf 3 _ rfl).trans hz3
  rw [cells23] at f3
  obtain ⟨d3, e3, _⟩ := open23 _ _ _ f3
  obtain ⟨z4, hz4⟩ := get_lt (xs := xs) (i := 4) (by rw [hxl]; decide)
  have f4 : DataW.trod enc Try.prog w base spare held m 2 (List.take (Program.cellsOf Try.prog 2) (List.drop 6 cs)) = some z4 := (hf 4 _ rfl).trans hz4
  rw [cells2] at f4
  obtain ⟨d4, e4, _⟩ := open_intE Try.underlying2 _ _ _ f4
  obtain ⟨z5, hz5⟩ := get_lt (xs := xs) (i := 5) (by rw [hxl]; decide)
  have f5 : DataW.trod enc Try.prog w base spare held m 2 (List.take (Program.cellsOf Try.prog 2) (List.drop 7 cs)) = some z5 := (hf 5 _ rfl).trans hz5
  rw [cells2] at f5
  obtain ⟨d5, e5, _⟩ := open_intE Try.underlying2 _ _ _ f5
  match cs, hl with
  | [c0, c1, c2, c3, c4, c5, c6, c7], _ =>
    simp only [Span.enc, enK, enB, enS, List.drop_succ_cons, List.drop_zero, List.take_succ_cons, List.take_zero, List.cons.injEq, and_true] at e0 e1 e2 e3 e4 e5
    refine ⟨⟨d0, d1, d2, d3, d4, d5⟩, ?_, trivial⟩
    simp [Nd.enc, Span.enc, e0, e1, e2, e3, e4, e5]


section
variable {H : Type} {enc : TypeId × Value → H} {w : World} {base : Nat} {spare : Nat → Bool} {held : Bool}
theorem open_cable {r : Reach} {b0 : Nat} {v : Value} {d : DataW H} {p : List MemPlace} (hv : Value.okWide Try.prog w r b0 26 v) (h : DataW.Trod enc Try.prog w base spare held 26 v d p) :
    ∃ (a : Option Addr) (cc : Nat) (c : Cable), v = .agg (c.cells a cc).toArray ∧ (rowO a 8 Nd.enc c.nodes).ok w ∧ c.nodes.length ≤ cc := by
  obtain ⟨cs, rfl, hsz⟩ := WideShapes.okWide_struct Try.underlying26 hv
  obtain ⟨fuel, h⟩ := h
  obtain ⟨cs⟩ := cs
  simp only [Value.cells] at h
  obtain ⟨xs, m, _, _, hl, hxl, hf⟩ := DataW.trod_struct Try.underlying26 h
  rw [cells26] at hl
  obtain ⟨z0, hz0⟩ := get_lt (xs := xs) (i := 0) (by rw [hxl]; decide)
  have f0 : DataW.trod enc Try.prog w base spare held m 23 (List.take (Program.cellsOf Try.prog 23) (List.drop 0 cs)) = some z0 := (hf 0 _ rfl).trans hz0
  rw [cells23] at f0
  obtain ⟨sp, e0, _⟩ := open23 _ _ _ f0
  obtain ⟨z1, hz1⟩ := get_lt (xs := xs) (i := 1) (by rw [hxl]; decide)
  have f1 : DataW.trod enc Try.prog w base spare held m 24 (List.take (Program.cellsOf Try.prog 24) (List.drop 2 cs)) = some z1 := (hf 1 _ rfl).trans hz1
  rw [cells24] at f1
  obtain ⟨a, c, ns, e1, hok, hle, _, _⟩ := open_row (en := Nd.enc) (Wf := fun _ => True) Try.underlying24 cells40 (by decide) (fun _ => rfl) (fun n cs y h => open40 n cs y h) f1
  refine ⟨a, c, ⟨sp, ns⟩, ?_, hok, hle⟩
  match cs, hl with
  | [c0, c1, c2], _ =>
    simp only [Span.enc, List.drop_succ_cons, List.drop_zero, List.take_succ_cons, List.take_zero, List.cons.injEq, and_true] at e0 e1
    simp [Cable.cells, e0, e1]
theorem open_ints {k : IntKind} {t e : TypeId} {v : Value} {d : DataW H} {p : List MemPlace} {r : Reach} {b0 : Nat} (ht : Try.prog.underlying t = some (.slice e)) (he : Try.prog.underlying e = some (.int k)) (hc : Try.prog.cellsOf e = 1) (hv : Value.okWide Try.prog w r b0 t v) (h : DataW.Trod enc Try.prog w base spare held t v d p) :
    ∃ (a : Option Addr) (c : Nat) (xs : List Int), v = .slice a xs.length c ∧ (rowO a 1 (enK k) xs).ok w ∧ xs.length ≤ c ∧ ∀ x ∈ xs, (Lit.int k x).wf = true := by
  obtain ⟨fuel, h⟩ := h
  obtain ⟨a, c, xs, e1, hok, hle, _, hw⟩ := open_row (en := enK k) (Wf := fun d => (Lit.int k d).wf = true) ht hc (by decide) (fun _ => rfl) (open_intE he) h
  obtain ⟨a', l', c', rfl⟩ := WideShapes.okWide_slice ht hv
  simp only [Value.cells, List.cons.injEq, and_true] at e1
  exact ⟨a, c, xs, e1, hok, hle, hw⟩
end

end Go.Proofs
namespace Go.Proofs
open Go
theorem cells29 : Program.cellsOf Try.prog 29 = 1 := by kernel_rfl
theorem cells5 : Program.cellsOf Try.prog 5 = 1 := by kernel_rfl
end Go.Proofs
