/- Parts of boxes, read and written; tactics that find what is asked for. Structs that are compared; rows seen by a callee. Many resources at once. Regions that draw their order, told in general: reads in whatever order; what lays or turns memory, in each order that is open. Loops that hold loops over functions: the marks that they leave. Sorts: the library's contracts in the words of the resources. -/
import Derived.Test.YtafghgomhjeabaaJ1
import Derived.Laws.StructEq
import Derived.Shelf.SlSortCmp.Whole1
import Derived.Shelf.Sort.Plain
set_option linter.unusedVariables false
set_option linter.unusedSimpArgs false
namespace Go.J
open Go Go.RowKit

/-- n of the values from o on -/
inductive Tk : List Value → Nat → Nat → List Value → Prop
  | nil {l : List Value} : Tk l 0 0 []
  | cons {x : Value} {l vs : List Value} {n : Nat} (h : Tk l 0 n vs) : Tk (x :: l) 0 (n + 1) (x :: vs)
  | skip {x : Value} {l vs : List Value} {o n : Nat} (h : Tk l o n vs) : Tk (x :: l) (o + 1) n vs
theorem Tk.eq {l vs : List Value} {o n : Nat} (h : Tk l o n vs) : vs.length = n ∧ ∀ i v, vs[i]? = some v → l[o + i]? = some v := by
  induction h with
  | nil => exact ⟨rfl, fun i v h => by simp at h⟩
  | cons _ ih =>
    refine ⟨by simp [ih.1], fun i v h => ?_⟩
    cases i with
    | zero => simpa using h
    | succ i => have := ih.2 i v (by simpa using h); simpa using this
  | @skip x l vs o n _ ih =>
    refine ⟨ih.1, fun i v h => ?_⟩
    have := ih.2 i v h
    rw [show o + 1 + i = (o + i) + 1 by omega]
    simpa using this
/-- l with vs from o on -/
inductive Pt : List Value → Nat → List Value → List Value → Prop
  | nil {l : List Value} : Pt l 0 [] l
  | cons {x v : Value} {l vs l' : List Value} (h : Pt l 0 vs l') : Pt (x :: l) 0 (v :: vs) (v :: l')
  | skip {x : Value} {l vs l' : List Value} {o : Nat} (h : Pt l o vs l') : Pt (x :: l) (o + 1) vs (x :: l')
theorem Pt.eq {l vs l' : List Value} {o : Nat} (h : Pt l o vs l') : putAt l o vs = l' ∧ o + vs.length ≤ l.length := by
  induction h with
  | nil => simp [putAt]
  | @cons x v l vs l' _ ih =>
    refine ⟨?_, by have := ih.2; simp; omega⟩
    have := ih.1; simp only [putAt, List.take_zero, List.nil_append, Nat.zero_add] at this
    simp [putAt, this]
  | @skip x l vs l' o _ ih =>
    refine ⟨?_, by have := ih.2; simp; omega⟩
    have := ih.1; simp only [putAt] at this
    rw [putAt, show o + 1 + vs.length = (o + vs.length) + 1 by omega]
    simp [← this]

section
variable {w₀ : World} {F : Nat → Prop} {M M' Φ : List Res} {b o : Nat} {t : TypeId} {l vs : List Value}
theorem ldT (n i : Nat) (hi : nth M i = some (bx b t l)) (h : Tk l o n vs) : ∀ w, St w₀ F M Φ w → Cells w b o vs := by
  intro _ hA
  exact Cells.own (hA.get i hi : (own b (cl t l)).φ _) o vs h.eq.2
theorem ldTΦ (n i : Nat) (hi : nth Φ i = some (bx b t l)) (h : Tk l o n vs) : ∀ w, St w₀ F M Φ w → Cells w b o vs := by
  intro _ hA
  exact Cells.own (hA.see i hi : (own b (cl t l)).φ _) o vs h.eq.2
variable {X : Type} {sz : Nat} {enc : X → List Value} {xs : List X}
theorem ldOT (n j : Nat) (hj : nth Φ j = some (rowO (some ⟨b, o, none⟩) sz enc xs)) {i k : Nat} {x : X} (hx : xs[i]? = some x) (hv : Tk (enc x) k n vs) : ∀ w, St w₀ F M Φ w → Cells w b (o + i * sz + k) vs := by
  intro w hA
  exact (ldO j hj hx w hA).sub k hv.eq.2
theorem ldOT1 (n j : Nat) (hj : nth Φ j = some (rowO (some ⟨b, o, none⟩) 1 enc xs)) {i : Nat} {x : X} (hx : xs[i]? = some x) (hv : Tk (enc x) 0 n vs) : ∀ w, St w₀ F M Φ w → Cells w b (o + i * 1) vs := by
  intro w hA
  exact (ldO j hj hx w hA).sub 0 (by simpa using hv.eq.2)
end

section rules
variable {P : Program} {L : List (Nat × Value)} {ty t : TypeId} {x y : Operand}
theorem S.storeP {w₀ : World} {F : Nat → Prop} {M M' Φ : List Res} {b o n : Nat} {T : TypeId} {l vs l' : List Value} {v : Value} (hx : Ev L x (.pointer (some ⟨b, o, none⟩))) (hy : Ev L y v) (hs : Sz P t n)
    (hv : v.cells = vs.toArray) (hn : vs.length = n) (h1 : ∀ u ∈ vs, u.oneCell' = true) (u : Upd M (bx b T l) M' (bx b T l')) (hp : Pt l o vs l') :
    Sk P (St w₀ F M Φ) (.store t x y) ty L (St w₀ F M' Φ) := S.store hx hy hs hv hn h1 u (hn ▸ hp.eq.2) hp.eq.1
/-- a store into the row of a slice -/
theorem S.storeR {w₀ : World} {F : Nat → Prop} {M M' Φ : List Res} {b n : Nat} {T : TypeId} {X : Type} {enc : X → List Value} {xs : List X} {e : X} {i sz : Nat} {v : Value} (hx : Ev L x (.pointer (some ⟨b, 0 + i * sz, none⟩))) (hy : Ev L y v) (hs : Sz P t n)
    (hz : ∀ x, (enc x).length = sz) (hv : v.cells = (enc e).toArray) (hn : sz = n) (h1 : ∀ u ∈ enc e, u.oneCell' = true) (u : Upd M (bx b T (xs.flatMap enc)) M' (bx b T ((xs.set i e).flatMap enc))) (hi : i < xs.length) :
    Sk P (St w₀ F M Φ) (.store t x y) ty L (St w₀ F M' Φ) := by
  have key : ∀ (xs : List X) (i : Nat), i < xs.length → putAt (xs.flatMap enc) (i * sz) (enc e) = (xs.set i e).flatMap enc ∧ i * sz + sz ≤ (xs.flatMap enc).length := by
    intro xs
    induction xs with
    | nil => intro i h; simp at h
    | cons y ys ih =>
      intro i h
      cases i with
      | zero => simp [putAt, hz]
      | succ i =>
        obtain ⟨h1, h2⟩ := ih i (by simpa using h)
        have e1 : (i + 1) * sz = (enc y).length + i * sz := by rw [hz, Nat.add_mul]; omega
        refine ⟨?_, by rw [e1, List.flatMap_cons, List.length_append]; omega⟩
        simp only [List.flatMap_cons, List.set_cons_succ, ← h1]
        simp only [putAt, e1, Nat.add_assoc, List.take_length_add_append, List.drop_length_add_append, List.append_assoc]
  have k := key xs i hi
  refine S.store hx hy hs hv (by rw [hz, hn]) h1 u ?_ ?_
  · rw [Nat.zero_add, ← hn]; exact k.2
  · rw [Nat.zero_add]; exact k.1
end rules

section posts
variable {w w' : World} {M Φ : List Res}
theorem PostV.eq {v v' : Value} (h : St w no M Φ w') (e : v = v') : PostV v' w (.returned v) w' := e ▸ PostV.of h
end posts
end Go.J
namespace Go.J
open Go Go.RowKit

/-- u == v of the type t is b -/
def Eqv (P : Program) (n : Nat) (t : TypeId) (u v : Value) (b : Bool) : Prop := ∀ d w, (Op.equalIn (d + n) t u v).run P w = .ok b w
def EqF (P : Program) (n : Nat) (fs : List Field) (xs ys : List Value) (b : Bool) : Prop := ∀ d w, (Op.eqFields (d + n) xs.toArray ys.toArray fs).run P w = .ok b w
/-- a field's part -/
def Prt (P : Program) (t : TypeId) (xs : List Value) (o : Nat) (v : Value) : Prop := ∀ w, (part t xs.toArray o).run P w = .ok v w

section
variable {P : Program} {t : TypeId} {n : Nat}
theorem Eqv.int {k k' : IntKind} {a b : Int} (h : P.underlying t = some (.int k')) : Eqv P 1 t (.int k a) (.int k b) (decide (a = b)) := fun d w => by
  rw [run_equalIn_int w d t k k' a b h]; congr 1
theorem Eqv.bool {a b : Bool} (h : P.underlying t = some .bool) : Eqv P 1 t (.bool a) (.bool b) (a == b) := fun d w => run_equalIn_bool' w d t a b h
theorem Eqv.string {a b : ByteArray} (h : P.underlying t = some .string) : Eqv P 1 t (.string a) (.string b) (decide (a.toList = b.toList)) := fun d w => by
  rw [run_equalIn_string w d t a b h]; congr 1; exact (Bool.beq_eq_decide_eq a.toList b.toList)
theorem Eqv.up {u v : Value} {b : Bool} {m : Nat} (h : Eqv P n t u v b) (hm : n ≤ m) : Eqv P m t u v b := fun d w => by
  have := h (d + (m - n)) w; rwa [show d + (m - n) + n = d + m by omega] at this
theorem Eqv.struct {fs : Array Field} {l : List Field} {xs ys : List Value} {b : Bool} (hu : P.underlying t = some (.struct fs)) (hp : P.stoodInHeld t = false) (hl : fs = l.toArray) (h : EqF P n l xs ys b) : Eqv P (n + 1) t (.agg xs.toArray) (.agg ys.toArray) b := fun d w => by
  have hf : P.fieldsOf t = fs := by simp [Program.fieldsOf, hu]
  rw [show d + (n + 1) = (d + n) + 1 by omega, run_equalIn_struct (P := P) w (d + n) t xs.toArray ys.toArray (by rw [hf]; exact hu) hp, hf, hl]
  exact h d w
theorem EqF.nil {xs ys : List Value} : EqF P n [] xs ys true := fun d w => by simp [Op.eqFields]
theorem EqF.cons {f : Field} {fs : List Field} {xs ys : List Value} {u v : Value} {a b : Bool} (hn : (f.name == "_") = false) (hx : Prt P f.type xs f.offset u) (hy : Prt P f.type ys f.offset v) (he : Eqv P n f.type u v a) (hr : EqF P n fs xs ys b) : EqF P n (f :: fs) xs ys (a && b) := fun d w => by
  have hn' : f.name ≠ "_" := by simpa using hn
  rw [Op.eqFields]
  simp only [if_pos hn', Sem.run_bind, hx w, hy w, he d w, Result.andThen_ok]
  cases a
  · simp
  · simpa using hr d w
theorem Prt.one {xs : List Value} {o : Nat} {v : Value} (ht : Sc P t) (hv : nth xs o = some v) : Prt P t xs o v := fun w => by
  simp only [part, Sem.run_bind, ht w, Result.andThen_ok]
  simp [nth_get hv]
theorem Prt.agg {xs vs : List Value} {o k : Nat} (ht : Ag P t k) (hv : (xs.drop o).take k = vs) : Prt P t xs o (.agg vs.toArray) := fun w => by
  subst hv
  simp [part, ht.1 w, ht.2 w]
theorem Q.eqS {A : World → Prop} {L : List (Nat × Value)} {ty yt : TypeId} {x y : Operand} {xs ys : List Value} {b : Bool} (hx : Ev L x (.agg xs.toArray)) (hy : Ev L y (.agg ys.toArray)) (hg : P.eqGuardType P.depth t = false) (hn : n ≤ 10000) (h : Eqv P n t (.agg xs.toArray) (.agg ys.toArray) b) :
    Qt P A (.binOp .eql t x y yt) ty L (.bool b) := Q.bin hx hy (fun w => by
  have h1 := run_eqGuard_agg (P := P) w .eql t x y xs.toArray ys.toArray hg
  have h2 := run_eql_struct (P := P) w t xs.toArray ys.toArray
  have h3 := h (10000 - n) w
  rw [show 10000 - n + n = 10000 by omega] at h3
  simp only [Sem.run_bind, h1, Result.andThen_ok, h2, h3])
theorem Q.neS {A : World → Prop} {L : List (Nat × Value)} {ty yt : TypeId} {x y : Operand} {xs ys : List Value} {b : Bool} (hx : Ev L x (.agg xs.toArray)) (hy : Ev L y (.agg ys.toArray)) (hg : P.eqGuardType P.depth t = false) (hn : n ≤ 10000) (h : Eqv P n t (.agg xs.toArray) (.agg ys.toArray) b) :
    Qt P A (.binOp .neq t x y yt) ty L (.bool (!b)) := Q.bin hx hy (fun w => by
  have h1 := run_eqGuard_agg (P := P) w .neq t x y xs.toArray ys.toArray hg
  have h2 := run_neq_struct (P := P) w t xs.toArray ys.toArray
  have h3 := h (10000 - n) w
  rw [show 10000 - n + n = 10000 by omega] at h3
  simp only [Sem.run_bind, h1, Result.andThen_ok, h2, h3])
end

section
variable {w₀ w : World} {F : Nat → Prop} {M Φ : List Res} {X : Type} {b sz : Nat} {enc : X → List Value} {xs : List X} {t : TypeId} {l : List Value}
/-- a box of one's own, seen as a row -/
theorem okRow (h : St w₀ F M Φ w) (i : Nat) (hi : nth M i = some (bx b t l)) (hl : l = xs.flatMap enc) (hs : ∀ x, (enc x).length = sz) (hne : ∀ x, enc x ≠ []) : (rowO (some ⟨b, 0, none⟩) sz enc xs).ok w :=
  rowO.ok_of (fun x _ => hne x) (bx_rowO (fun x _ => hs x) hl (h.get i hi))
theorem okRowG {e : TypeId} {a : Option Addr} {n c : Nat} (h : St w₀ F M Φ w) (i : Nat) (hi : nth M i = some (rowG e sz a n c l)) (hl : l = xs.flatMap enc) (hs : ∀ x, (enc x).length = sz) (hne : ∀ x, enc x ≠ []) (h0 : 0 < sz) : (rowO a sz enc xs).ok w :=
  rowO.ok_of (fun x _ => hne x) (rowG.rowO h0 (fun x _ => hs x) hl (h.get i hi))
/-- literals' cells -/
inductive Cs : List Value → List (List Value) → Prop
  | nil : Cs [] []
  | cons {v : Value} {l : List Value} {vs : List Value} {ls : List (List Value)} (h : v.cells = l.toArray) (t : Cs vs ls) : Cs (v :: vs) (l :: ls)
theorem Cs.eq {vs : List Value} {ls : List (List Value)} (h : Cs vs ls) : vs.map Value.cells = ls.map List.toArray := by
  induction h with
  | nil => rfl
  | cons h _ ih => simp [h, ih]
end
/-! struct literals -/
/-- how a literal of the type is laid -/
def StB (P : Program) (t : TypeId) (zs : List Value) (pl : List (Nat × Nat)) : Prop := ∀ parts, P.built t parts = Instr.fill (fun i => pl.toArray[i]?) zs.toArray parts
theorem StB.struct {P : Program} {t : TypeId} {zs : List Value} {pl : List (Nat × Nat)} {fs : Array Field} (it : TypeInfo) (h1 : P.info? t = some it) (h2 : it.zero = some (.agg zs.toArray)) (h3 : P.underlying t = some (.struct fs))
    (h4 : fs.toList.mapM (fun f => (P.info? f.type).map fun i => (f.offset, i.size)) = some pl) : StB P t zs pl := by
  intro parts
  unfold Program.built
  simp only [h1, h3, h2, h4]
  rfl
inductive Bd (pl : List (Nat × Nat)) : List (Nat × Value) → List Value → List Value → Prop
  | nil {l : List Value} : Bd pl [] l l
  | cons {i off size : Nat} {v : Value} {vs l l₁ l₂ : List Value} {ps : List (Nat × Value)} (hi : nth pl i = some (off, size)) (hv : v.cells = vs.toArray) (hs : vs.length = size) (hp : Pt l off vs l₁) (h : Bd pl ps l₁ l₂) : Bd pl ((i, v) :: ps) l l₂
theorem Bd.eq {pl : List (Nat × Nat)} {ps : List (Nat × Value)} {l l' : List Value} (h : Bd pl ps l l') : Instr.fill (fun i => pl.toArray[i]?) l.toArray ps = some l'.toArray := by
  induction h with
  | nil => rfl
  | @cons i off size v vs l l₁ l₂ ps hi hv hs hp _ ih =>
    have h1 : pl.toArray[i]? = some (off, size) := by simpa using nth_get hi
    have h2 := hp.eq
    have h3 : (v.cells.zipIdx.foldl (fun cs x => cs.setIfInBounds (off + x.2) x.1) l.toArray) = l₁.toArray := by
      apply Array.ext'
      have := fold_put off vs 0 l.toArray (by simpa using h2.2)
      rw [hv, ← Array.foldl_toList]
      simp only [Array.toList_zipIdx, Nat.add_zero] at this ⊢
      rw [this, ← h2.1]; simp [putAt]
    simp only [Instr.fill, h1]
    have h4 : v.cells.size = size := by rw [hv]; simpa using hs
    have h5 : ¬ (off + v.cells.size > l.toArray.size) := by rw [h4, ← hs]; simpa using h2.2
    simp only [h4, ne_eq, not_true_eq_false, decide_false, Bool.false_or]
    rw [h4] at h5
    simp only [h5, decide_false, Bool.false_eq_true, if_false]
    rw [show (Array.foldl (fun cs (x : Value × Nat) => match x with | (c, j) => cs.setIfInBounds (off + j) c) l.toArray v.cells.zipIdx) = l₁.toArray from h3]
    exact ih
theorem Q.buildB {P : Program} {t ty : TypeId} {A : World → Prop} {L : List (Nat × Value)} {parts : List (Nat × Operand)} {ps : List (Nat × Value)} {cells zs : List Value} {pl : List (Nat × Nat)} (hs : StB P t zs pl) (hp : Evs L (parts.map (·.2)) (ps.map (·.2))) (hi : parts.map (·.1) = ps.map (·.1)) (hb : Bd pl ps zs cells) :
    Qt P A (.build t parts.toArray) ty L (.agg cells.toArray) := Q.build hp hi ((hs ps).trans hb.eq)
end Go.J
namespace Go.J
open Go Go.RowKit

/-- all of some resources -/
def bigR (l : List Res) : Res where
  U := fun b => ∃ r ∈ l, r.U b
  φ := fun w => ∀ r ∈ l, r.φ w
  st := fun w w' a b c d e h r hr => r.st w w' a b c d (fun x hx => e x ⟨r, hr, hx⟩) (h r hr)

section
variable {w₀ w : World} {F : Nat → Prop} {M M' Φ : List Res}
theorem bigR.ok_iff {l : List Res} : (bigR l).ok w ↔ ∀ r ∈ l, r.ok w :=
  ⟨fun h r hr => ⟨h.1 r hr, fun b hb => h.2 b ⟨r, hr, hb⟩⟩, fun h => ⟨fun r hr => (h r hr).1, fun b ⟨r, hr, hb⟩ => (h r hr).2 b hb⟩⟩
/-- the parts of a shared resource -/
theorem St.unbig {l : List Res} (h : St w₀ F M (bigR l :: Φ) w) : St w₀ F M (l ++ Φ) w :=
  ⟨h.eff, h.own_, h.apart, fun i hi => by
    rcases List.mem_append.1 hi with hi | hi
    · obtain ⟨h1, h2, h3⟩ := h.imm _ (List.mem_cons_self ..)
      exact ⟨h1 i hi, fun b hb => h2 b ⟨i, hi, hb⟩, fun r hr b hb hb' => h3 r hr b hb ⟨i, hi, hb'⟩⟩
    · exact h.imm i (List.mem_cons_of_mem _ hi)⟩
theorem J.unbig {r : Option Nat} {P : Program} {N : Nat} {ops : Array Oper} {Q : Exit → Act → World → Prop} {rest : List Oper} {D : List Deferred} {L : List (Nat × Value)} {l : List Res} (h : J r P N ops Q rest D L (St w₀ F M (l ++ Φ))) : J r P N ops Q rest D L (St w₀ F M (bigR l :: Φ)) := h.conseq fun _ => St.unbig
/-- what is given out stems from what is owned -/
theorem PostN.big {X : Type} {H : X → Prop} {V : X → Value} {rs : X → List Res} {w' : World} (x : X) (hx : H x) (h : St w no M Φ w') (hc : ∀ r ∈ rs x, ∃ r' ∈ M, (∀ w, r'.φ w → r.φ w) ∧ ∀ b, r.U b → r'.U b) : PostN H V (fun x => bigR (rs x)) w (.returned (V x)) w' := by
  refine ⟨x, hx, rfl, h.eff, fun r hr => ?_, fun b ⟨r, hr, hb⟩ => ?_⟩
  · obtain ⟨r', hr', h1, _⟩ := hc r hr
    exact h1 _ (h.own_ r' hr').1
  · obtain ⟨r', hr', _, h2⟩ := hc r hr
    have := (h.own_ r' hr').2 b (h2 b hb)
    exact ⟨this.2.resolve_left (fun h => h), this.1⟩
theorem Upd.append {l : List Res} {r₀ r : Res} (h : Upd M r₀ M' r) : Upd (l ++ M) r₀ (l ++ M') r := by
  induction l with
  | nil => exact h
  | cons x l ih => exact .there ih
theorem Upd.left {l l' : List Res} {r₀ r : Res} (h : Upd l r₀ l' r) : Upd (l ++ M) r₀ (l' ++ M) r := by
  induction h with
  | here => exact .here
  | there _ ih => exact .there ih
theorem Upd.map {X : Type} {f : X → Res} {x y : X} : ∀ {l : List X} {i : Nat}, l[i]? = some x → Upd (l.map f) (f x) ((l.set i y).map f) (f y)
  | [], i, h => by simp at h
  | z :: l, 0, h => by simp at h; subst h; exact .here
  | z :: l, i + 1, h => .there (Upd.map (l := l) (i := i) (by simpa using h))
/-- many new growable rows, all of them nil -/
theorem St.newGs {e : TypeId} {sz : Nat} (n : Nat) (h : St w₀ F M Φ w) : St w₀ F (List.replicate n (rowG e sz none 0 0 []) ++ M) Φ w := by
  induction n with
  | zero => exact h
  | succ n ih => rw [List.replicate_succ]; exact ih.newG
/-- the order of what is owned does not matter -/
theorem St.swapM {l₁ l₂ : List Res} (h : St w₀ F (l₁ ++ l₂) Φ w) : St w₀ F (l₂ ++ l₁) Φ w := h.permM List.perm_append_comm
end

/-- a slice of numbers that may grow -/
structure Sl where
  a : Option Addr
  n : Nat
  c : Nat
  xs : List Int
abbrev I64 (x : Int) : Value := .int .i64 x
def Sl.val (s : Sl) : Value := .slice s.a s.n s.c
def Sl.grow (s : Sl) : Res := rowG 3 1 s.a s.n s.c (s.xs.map I64)
abbrev enI (x : Int) : List Value := [.int .i64 x]
def Sl.row (s : Sl) : Res := rowO s.a 1 enI s.xs
theorem flat_enI {xs : List Int} : xs.flatMap enI = xs.map I64 := by induction xs <;> simp_all
theorem enI_len (x : Int) : (enI x).length = 1 := rfl
theorem enI_ne (x : Int) : enI x ≠ [] := by simp
theorem enI_one (x : Int) : ∀ u ∈ enI x, u.oneCell' = true := by simp [Value.oneCell']
theorem Sl.row_of (s : Sl) {w : World} (h : s.grow.φ w) : s.row.φ w := rowG.rowO (by omega) (fun _ _ => rfl) flat_enI.symm h
theorem Sl.row_U (s : Sl) {b : Nat} (h : s.row.U b) : s.grow.U b := by obtain ⟨_, ad, h1, rfl⟩ := h; simp [Sl.grow, rowG, Value.ownBlock, h1]
theorem rowG.len {e : TypeId} {sz : Nat} {a : Option Addr} {n c : Nat} {l : List Value} {w : World} (h : (rowG e sz a n c l).φ w) : l.length = n * sz := h.1
theorem Sl.len (s : Sl) {w : World} (h : s.grow.φ w) : s.n = s.xs.length := by
  have := rowG.len h; simpa using this.symm
abbrev Sl.enc (s : Sl) : List Value := [s.val]
/-- an element of a box that is a row -/
theorem ldMO {w₀ : World} {F : Nat → Prop} {M Φ : List Res} {X : Type} {b sz k : Nat} {t : TypeId} {enc : X → List Value} {xs : List X} {x : X} (j : Nat) (hj : nth M j = some (bx b t (xs.flatMap enc))) (hs : ∀ x, (enc x).length = sz) (hx : xs[k]? = some x) : ∀ w, St w₀ F M Φ w → Cells w b (0 + k * sz) (enc x) := by
  intro w hA
  obtain ⟨b', o', hb, hc⟩ := bx_rowO (fun x _ => hs x) rfl (hA.get j hj : (bx b t (xs.flatMap enc)).φ w) k x hx
  cases hb; exact hc
theorem ldMOT {w₀ : World} {F : Nat → Prop} {M Φ : List Res} {X : Type} {b sz k o n : Nat} {t : TypeId} {enc : X → List Value} {xs : List X} {x : X} {vs : List Value} (j : Nat) (hj : nth M j = some (bx b t (xs.flatMap enc))) (hs : ∀ x, (enc x).length = sz) (hx : xs[k]? = some x) (hv : Tk (enc x) o n vs) : ∀ w, St w₀ F M Φ w → Cells w b (0 + k * sz + o) vs := by
  intro w hA
  exact (ldMO j hj hs hx w hA).sub o hv.eq.2
end Go.J
namespace Go.J
open Go Go.RowKit

/-- the end of one operation -/
def letOnly (K : Act → World → Prop) (Q : Exit → Act → World → Prop) : Exit → Act → World → Prop := fun e a w => match e with
  | .normal => K a w
  | .outgrown => Q .outgrown a w
  | _ => False

def drawCAt (l : List Oper) (ms : List Nat) (H : List Nat) (k : Nat) (o : Oper) : Bool :=
  (ons o).all (fun e => Nat.blt e k) && Nat.beq (ms.getD k 0) (maskOf ms (ons o)) && !isSelect o.op && notDefer o.op &&
  (o.looksAt l.toArray).all (fun t => (List.range l.length).all fun j => !(((l[j]?).bind (·.dst)) == some t) || ((ms.getD k 0).testBit j || !H.contains j)) &&
  (!H.contains k || (List.range l.length).all fun j => !(ms.getD k 0).testBit j || H.contains j)
def drawC (l : List Oper) (ms : List Nat) (H : List Nat) : Bool := (H.all fun h => Nat.blt h l.length) && (List.range l.length).all fun k => match l[k]? with | some o => drawCAt l ms H k o | none => true
def readyT (l : List Oper) (ms : List Nat) (H : List Nat) (S : Nat) : List Nat :=
  (List.range l.length).filter fun k => !H.contains k && !S.testBit k && (List.range l.length).all fun j => !(ms.getD k 0).testBit j || H.contains j || S.testBit j
def freeB (ms : List Nat) (H : List Nat) (k : Nat) : Bool := H.all fun h => (ms.getD k 0).testBit h
def leftT (l : List Oper) (H : List Nat) (S : Nat) : Nat := (List.range l.length).countP fun j => !H.contains j && !S.testBit j
def dstFresh (o : Oper) (L : List (Nat × Value)) : Bool := match o.dst with | none => true | some d => fresh d L

/-- what is quiet: it gives v and turns nothing that was there -/
def YE (P : Program) (ops : Array Oper) (A : World → Prop) (o : Oper) (v : Value) (a : Act) : Prop :=
  (Region.wanted o (yielded ops a.tmps) = true ∧ ∀ w, A w → o.quietAt P a (fun w' => Eff no w w') w v) ∨ (Region.wanted o (yielded ops a.tmps) = false ∧ v = undef)

theorem wpIn_agree {r : Option Nat} {P : Program} {o : Oper} {a c : Act} {w : World} {K K' K0 : Act → World → Prop} {Q : Exit → Act → World → Prop} (he : execOp a.eval o = execOp c.eval o) (hnd : notDefer o.op = true)
    (hK : ∀ v w', K' (c.put o.dst v) w' → K (a.put o.dst v) w') (hD : ∀ d w', ¬ K' ({ c with defers := d :: c.defers }.put o.dst undef) w') (h : o.wpIn (Wf r) 0 P c w K' (letOnly K0 Q)) : o.wpIn (Wf r) 0 P a w K Q := by
  unfold Oper.wpIn at *
  refine ⟨fun _ _ => trivial, ?_⟩
  have h := h.2
  rw [semAt_of hnd] at h ⊢
  rw [he]
  generalize (execOp c.eval o).run P w = res at *
  have lo : LetsOut (letOnly K0 Q) → LetsOut Q := fun ⟨a, w, h⟩ => ⟨a, w, h⟩
  cases res with
  | ok x w' =>
    cases x <;> simp only [Oper.uponIn] at h ⊢
    case value v => exact hK _ _ h
    case skip => exact hK _ _ h
    case defer d => exact absurd h (hD d w')
    case enter f args =>
      refine ⟨h.1, CallsIn.mono h.2 (fun e w'' he => ?_)⟩
      cases e with
      | returned v => exact hK _ _ he
      | panicked ch => exact he.elim
      | outgrown => exact lo he
    case row row args => exact ⟨h.1, RowsIn.mono h.2 (fun _ _ he => hK _ _ he)⟩
    case round l f tmps assign body =>
      refine ⟨h.1, RoundIn.mono h.2 (fun e w'' he => ?_)⟩
      cases e with
      | returned v => exact hK _ _ he
      | panicked ch => exact he.elim
      | outgrown => exact lo he
  | halt x w' => cases x <;> simp only [Oper.uponIn] at h ⊢ <;> exact h.elim

theorem YE.of_same {P : Program} {ops : Array Oper} {A : World → Prop} {o : Oper} {v : Value} {a a' : Act} (hy : YE P ops A o v a) (he : execOp a'.eval o = execOp a.eval o)
    (hw : Region.wanted o (yielded ops a'.tmps) = Region.wanted o (yielded ops a.tmps)) : YE P ops A o v a' := by
  unfold YE Oper.quietAt at *
  rw [he, hw]; exact hy

section
variable {r : Option Nat} {P : Program} {N : Nat} {l : List Oper} {ms : List Nat} {Q : Exit → Act → World → Prop} {D : List Deferred} {L : List (Nat × Value)} {A : World → Prop}

theorem wpOpIn_of_YE {i : Nat} {o : Oper} {v : Value} {a : Act} {w : World} {K : Act → World → Prop} (hi : l[i]? = some o) (hnd : notDefer o.op = true) (hA : A w) (hy : YE P l.toArray A o v a)
    (h : ∀ w', Eff no w w' → K (a.put o.dst v) w') : wpOpIn (Wf r) 0 P l.toArray Q i K a w := by
  have hi' : l.toArray[i]? = some o := by simpa using hi
  unfold wpOpIn
  simp only [hi']
  rcases hy with ⟨hw, hq⟩ | ⟨hw, rfl⟩
  · simp only [hw, if_true]
    refine ⟨fun _ _ => trivial, ?_⟩
    have h1 := hq w hA
    rw [semAt_of hnd]
    unfold Oper.quietAt at h1
    generalize (execOp a.eval o).run P w = res at *
    cases res with
    | ok x w' =>
      cases x <;> simp only [Oper.quietUpon] at h1
      case value u => obtain ⟨rfl, rfl⟩ := h1; exact h _ (Eff.refl _ _)
      case skip => obtain ⟨rfl, rfl⟩ := h1; exact h _ (Eff.refl _ _)
      case enter f args =>
        obtain ⟨rfl, hc⟩ := h1
        refine ⟨fun h => by simp [Fence.wide] at h, callsWf (hc.mono ?_)⟩
        rintro e w'' ⟨rfl, hA'⟩
        exact h _ hA'
    | halt x w' => simp [Oper.quietUpon] at h1
  · simp only [hw, Bool.false_eq_true, if_false]
    exact ⟨fun _ _ => trivial, h w (Eff.refl _ _)⟩

/-- what is left to do, the operations of S and all quiet ones being done -/
def JT (r : Option Nat) (P : Program) (N : Nat) (l : List Oper) (ms H : List Nat) (Q : Exit → Act → World → Prop) (D : List Deferred) (LH : List (Nat × Value)) (A₀ : World → Prop) : Nat → Nat → List (Nat × Value) → (World → Prop) → Prop
  | 0, _, L, A => X N .normal Q D L A
  | n + 1, S, L, A => ∀ i ∈ readyT l ms H S, ∃ o, l[i]? = some o ∧ J r P N l.toArray (letOnly (fun a w => ∃ L' A', JT r P N l ms H Q D LH A₀ n (S ||| 2 ^ i) L' A' ∧ (∀ w w', Eff no w w' → A' w → A' w') ∧
      (freeB ms H i = true ∨ (∀ w, A' w → A₀ w) ∧ dstFresh o LH = true) ∧ FOK N D L' a ∧ A' w) Q) [o] D L A

inductive DC (P : Program) (N : Nat) (l : List Oper) (A : World → Prop) (L : List (Nat × Value)) : List Nat → List (Nat × Value) → Prop
  | nil : DC P N l A L [] L
  | cons {hs : List Nat} {k d : Nat} {Lk : List (Nat × Value)} {o : Oper} {v : Value} (h : DC P N l A L hs Lk) (ho : l[k]? = some o) (hd : o.dst = some d) (hn : okd d N Lk = true)
      (hy : ∀ D a, FOK N D Lk a → YE P l.toArray A o v a) : DC P N l A L (k :: hs) ((d, v) :: Lk)

theorem DC.base {hs : List Nat} {Lk : List (Nat × Value)} (h : DC P N l A L hs Lk) : ∀ p ∈ L, p ∈ Lk := by
  induction h with
  | nil => exact fun p h => h
  | cons _ _ _ _ _ ih => exact fun p h => List.mem_cons_of_mem _ (ih p h)
/-- each head's value, and what it was computed from -/
theorem DC.step {hs : List Nat} {Lk : List (Nat × Value)} (h : DC P N l A L hs Lk) : ∀ i ∈ hs, ∃ o d v Li, l[i]? = some o ∧ o.dst = some d ∧ Nat.blt d N = true ∧ (∀ D a, FOK N D Li a → YE P l.toArray A o v a) ∧ (∀ p ∈ Li, p ∈ Lk) ∧ (d, v) ∈ Lk := by
  induction h with
  | nil => intro i hi; simp at hi
  | @cons hs k d Lk o v h ho hd hn hy ih =>
    intro i hi
    rcases List.mem_cons.1 hi with rfl | hi
    · exact ⟨o, d, v, Lk, ho, hd, by simpa using okd_lt hn, hy, fun p hp => List.mem_cons_of_mem _ hp, List.mem_cons_self ..⟩
    · obtain ⟨o', d', v', Li, h1, h2, h3, h4, h5, h6⟩ := ih i hi
      exact ⟨o', d', v', Li, h1, h2, h3, h4, fun p hp => List.mem_cons_of_mem _ (h5 p hp), List.mem_cons_of_mem _ h6⟩
theorem DC.full {hs : List Nat} {Lk : List (Nat × Value)} (h : DC P N l A L hs Lk) {a : Act} (hf : FOK N D L a) :
    ∃ a', FOK N D Lk a' ∧ ∀ t, (∀ j ∈ hs, ∀ o, l[j]? = some o → o.dst ≠ some t) → a.tmps[t]? = a'.tmps[t]? := by
  induction h with
  | nil => exact ⟨a, hf, fun _ _ => rfl⟩
  | @cons hs k d Lk o v _ ho hd hn _ ih =>
    obtain ⟨a', h1, h2⟩ := ih
    refine ⟨a'.put (some d) v, h1.put hn, fun t ht => ?_⟩
    have hne : d ≠ t := fun e => ht k (List.mem_cons_self ..) o ho (by rw [hd, e])
    simp only [Act.put]
    rw [Array.getElem?_setIfInBounds_ne hne]
    exact h2 t (fun j hj o' => ht j (List.mem_cons_of_mem _ hj) o')

structure DrawCAt (l : List Oper) (ms : List Nat) (H : List Nat) (k : Nat) (o : Oper) : Prop where
  back : ∀ e ∈ ons o, e < k
  mask : ms.getD k 0 = maskOf ms (ons o)
  sel : ∀ cs b, o.op ≠ .select cs b
  nd : notDefer o.op = true
  looks : ∀ t ∈ o.looksAt l.toArray, ∀ j o', j ∈ H → l[j]? = some o' → o'.dst = some t → (ms.getD k 0).testBit j = true
  head : k ∈ H → ∀ j, j < l.length → (ms.getD k 0).testBit j = true → j ∈ H
theorem drawC_at {H : List Nat} (h : drawC l ms H = true) {k : Nat} {o : Oper} (ho : l[k]? = some o) : DrawCAt l ms H k o := by
  simp only [drawC, Bool.and_eq_true, List.all_eq_true, List.mem_range] at h
  have hk := h.2 k (List.getElem?_eq_some_iff.1 ho).1
  simp only [ho, drawCAt, Bool.and_eq_true, List.all_eq_true, List.mem_range, Nat.blt_eq, Bool.not_eq_true', Bool.or_eq_true] at hk
  obtain ⟨⟨⟨⟨⟨h1, h2⟩, h3⟩, h4⟩, h5⟩, h6⟩ := hk
  refine ⟨h1, Nat.eq_of_beq_eq_true h2, ?_, h4, ?_, ?_⟩
  · intro cs b e; rw [e] at h3; simp [isSelect] at h3
  · intro t ht j o' hjH hj hd
    rcases h5 t ht j (List.getElem?_eq_some_iff.1 hj).1 with h7 | h7 | h7
    · simp [hj, hd] at h7
    · exact h7
    · simp [hjH] at h7
  · intro hk j hj hb
    rcases h6 with h6 | h6
    · simp [hk] at h6
    · rcases h6 j hj with h7 | h7
      · rw [hb] at h7; cases h7
      · simpa using h7

theorem anc_listedC {H : List Nat} (hB : drawC l ms H = true) {b : Array Bool} (hc : Closed l b) : ∀ (k : Nat) {o : Oper}, l[k]? = some o → (∀ e ∈ ons o, Lst b e) → ∀ j, (ms.getD k 0).testBit j = true → Lst b j := by
  intro k
  induction k using Nat.strongRecOn with
  | _ k ih =>
    intro o ho hr j hj
    have hd := drawC_at hB ho
    rw [hd.mask] at hj
    obtain ⟨e, he, h | h⟩ := maskOf_bit hj
    · subst h; exact hr _ he
    · have hek := hd.back e he
      have hlt : e < l.length := Nat.lt_trans hek (List.getElem?_eq_some_iff.1 ho).1
      exact ih e hek (List.getElem?_eq_getElem hlt) (hc e _ (List.getElem?_eq_getElem hlt) (hr e he)) j h

theorem countP_drop {p q : Nat → Bool} {i : Nat} : ∀ {xs : List Nat}, xs.Nodup → i ∈ xs → p i = true → (∀ j, q j = (p j && decide (j ≠ i))) → xs.countP p = xs.countP q + 1 := by
  intro xs
  induction xs with
  | nil => intro _ h; simp at h
  | cons x xs ih =>
    intro hn hi hp hq
    obtain ⟨h1, h2⟩ := List.nodup_cons.1 hn
    rcases List.mem_cons.1 hi with rfl | hi
    · have hsame : xs.countP p = xs.countP q := List.countP_congr (fun j hj => by
        have : j ≠ i := fun e => h1 (e ▸ hj)
        simp [hq j, this])
      simp [hp, hq i, hsame]
    · have hxi : x ≠ i := fun e => h1 (e ▸ hi)
      rw [List.countP_cons, List.countP_cons, ih h2 hi hp hq, hq x]
      simp [hxi]; omega

theorem leftT_step {H : List Nat} {S i : Nat} (hi : i < l.length) (hH : i ∉ H) (hS : S.testBit i = false) : leftT l H S = leftT l H (S ||| 2 ^ i) + 1 := by
  refine countP_drop (i := i) List.nodup_range (List.mem_range.2 hi) (by simp [hH, hS]) (fun j => ?_)
  rw [Nat.testBit_or, Nat.testBit_two_pow]
  by_cases hij : i = j
  · subst hij; simp
  · have : j ≠ i := fun e => hij e.symm
    simp [hij, this]

structure DInv (r : Option Nat) (P : Program) (N : Nat) (l : List Oper) (ms H : List Nat) (Q : Exit → Act → World → Prop) (D : List Deferred) (LH : List (Nat × Value)) (A : World → Prop) (S : Nat) (Ls : List (Nat × Value)) (As : World → Prop) (c : Act) (b : Array Bool) (a : Act) (w : World) : Prop where
  jt : JT r P N l ms H Q D LH A (leftT l H S) S Ls As
  stab : ∀ w w', Eff no w w' → As w → As w'
  fok : FOK N D Ls c
  aw : As w
  hd : (∀ h ∈ H, Lst b h) ∨ (A w ∧ ∀ p ∈ LH, c.tmps.getD p.1 undef = p.2)
  tl : ∀ j, j < l.length → j ∉ H → (Lst b j ↔ S.testBit j = true)
  sz : a.tmps.size = N
  df : a.defers = D
  ag : ∀ t, (∀ h ∈ H, ¬ Lst b h → ∀ o, l[h]? = some o → o.dst ≠ some t) → a.tmps[t]? = c.tmps[t]?

theorem draw_all {H : List Nat} (hB : drawC l ms H = true) {LH : List (Nat × Value)} (HC : DC P N l A L H LH) (hAs : ∀ w w', Eff no w w' → A w → A w') :
    ∀ (fuel : Nat) (b : Array Bool) (a : Act) (w : World), b.size = l.length → b.toList.count false = fuel → Closed l b → (∃ S Ls As c, DInv r P N l ms H Q D LH A S Ls As c b a w) →
      wpAnyIn (Wf r) 0 P .any l.toArray Q fuel b a w := by
  have hHl : ∀ h ∈ H, h < l.length := fun h hh => by
    obtain ⟨o, _, _, _, ho, _⟩ := HC.step h hh
    exact (List.getElem?_eq_some_iff.1 ho).1
  have ready_min : ∀ (b : Array Bool) (i : Nat), b.size = l.length → i < l.length → ¬ Lst b i → (∀ j, j < i → Lst b j) → i ∈ Region.ready .any l.toArray b := by
    intro b i hs hi hn hlt
    rw [mem_ready]
    have hf : b.getD i false = false := by simpa [Lst] using hn
    refine ⟨by rw [getD_bool (by omega)]; exact hf, l[i], by simp [hi], fun e he hb => ?_⟩
    have hon : e.on ∈ ons l[i] := mem_ons.2 ⟨e, he, hb, rfl⟩
    exact hlt _ ((drawC_at hB (List.getElem?_eq_getElem hi)).back _ hon)
  intro fuel
  induction fuel with
  | zero =>
    rintro b a w hs hc0 hcl ⟨S, Ls, As, c, I⟩
    have hall : ∀ j, j < l.length → Lst b j := by
      intro j hj
      have h1 : false ∉ b.toList := List.count_eq_zero.1 hc0
      have hj' : j < b.size := by omega
      unfold Lst
      cases hv : b.getD j false with
      | true => rfl
      | false =>
        exfalso; apply h1
        have : b[j] = false := by simpa [hj'] using hv
        rw [← this]; simp
    constructor
    · apply List.eq_nil_iff_forall_not_mem.2
      intro j hj
      obtain ⟨h0, o, ho, _⟩ := mem_ready.1 hj
      have hj' : j < l.length := by simpa using (Array.getElem?_eq_some_iff.1 ho).1
      have := hall j hj'
      unfold Lst at this
      rw [getD_bool (by omega), this] at h0; cases h0
    · have h0 : leftT l H S = 0 := by
        unfold leftT
        rw [List.countP_eq_zero]
        intro j hj
        have hj' := List.mem_range.1 hj
        by_cases hjH : j ∈ H
        · simp [hjH]
        · simp [hjH, (I.tl j hj' hjH).1 (hall j hj')]
      have hjt := I.jt
      rw [h0] at hjt
      refine hjt a w ⟨I.sz, I.df, fun p hp => ?_⟩ I.aw
      rw [Array.getD_eq_getD_getElem?, I.ag p.1 (fun h hh hn => absurd (hall h (hHl h hh)) hn), ← Array.getD_eq_getD_getElem?]
      exact I.fok.at_ p hp
  | succ fuel ih =>
    rintro b a w hs hc0 hcl ⟨S, Ls, As, c, I⟩
    refine ⟨fun hnil => ?_, fun i hi => ?_⟩
    · exfalso
      have h1 : false ∈ b.toList := List.count_pos_iff.1 (by omega)
      obtain ⟨k, hk, hkv⟩ := List.getElem_of_mem h1
      have hex : ∃ i, i < l.length ∧ ¬ Lst b i ∧ ∀ j, j < i → Lst b j := by
        have hk' : k < b.size := by simpa using hk
        have hnk : ¬ Lst b k := by
          unfold Lst
          have : b[k] = false := by simpa using hkv
          simp [hk', this]
        have : ∀ m, (∃ i, i < l.length ∧ ¬ Lst b i ∧ ∀ j, j < i → Lst b j) ∨ ∀ j, j < m → Lst b j := by
          intro m
          induction m with
          | zero => exact .inr (fun j hj => by omega)
          | succ m ihm =>
            rcases ihm with h | h
            · exact .inl h
            · by_cases hm : Lst b m
              · refine .inr (fun j hj => ?_)
                rcases Nat.lt_or_ge j m with h' | h'
                · exact h j h'
                · have : j = m := by omega
                  subst this; exact hm
              · by_cases hml : m < l.length
                · exact .inl ⟨m, hml, hm, h⟩
                · exact absurd (h k (by omega)) hnk
        rcases this (k + 1) with h | h
        · exact h
        · exact absurd (h k (by omega)) hnk
      obtain ⟨i, hi, hni, hlt⟩ := hex
      have := ready_min b i hs hi hni hlt
      rw [hnil] at this; cases this
    · obtain ⟨h0, o, ho, haft⟩ := mem_ready.1 hi
      have ho' : l[i]? = some o := by simpa using ho
      have hil : i < l.length := (List.getElem?_eq_some_iff.1 ho').1
      have hd := drawC_at hB ho'
      have hons : ∀ e ∈ ons o, Lst b e := fun e he => by
        obtain ⟨g, hg, hb, rfl⟩ := mem_ons.1 he; exact haft g hg hb
      have hanc := anc_listedC hB hcl i ho' hons
      have hni : ¬ Lst b i := by
        unfold Lst; rw [← getD_bool (by omega), h0]; simp
      have hs' : (b.setIfInBounds i true).size = l.length := by simpa using hs
      have hc' : (b.setIfInBounds i true).toList.count false = fuel := by have := count_set h0; omega
      have hset : ∀ j, Lst (b.setIfInBounds i true) j ↔ Lst b j ∨ j = i := by
        intro j
        unfold Lst
        by_cases hij : i = j
        · subst hij
          have : i < b.size := by omega
          simp [this]
        · rw [getD_set_ne false hij]
          constructor
          · exact .inl
          · rintro (h | h)
            · exact h
            · exact absurd h.symm hij
      have hcl' : Closed l (b.setIfInBounds i true) := by
        intro j o' hj hl e he
        rw [hset] at hl ⊢
        rcases hl with hl | rfl
        · exact .inl (hcl j o' hj hl e he)
        · have : o' = o := Option.some.inj (hj.symm.trans ho')
          subst this
          exact .inl (hons e he)
      -- what is looked at is the same
      have hlook : ∀ t ∈ o.looksAt l.toArray, a.tmps[t]? = c.tmps[t]? := fun t ht => I.ag t (fun h hh hn o' ho1 hd1 => hn (hanc h (hd.looks t ht h o' hh ho1 hd1)))
      have hsame := look_same (ops := l.toArray) (o := o) (a := c) (a' := a) hd.sel hlook
      by_cases hiH : i ∈ H
      · -- one of the quiet
        obtain ⟨o₁, d, v, Li, k1, k2, k3, k4, k5, k6⟩ := HC.step i hiH
        have : o₁ = o := Option.some.inj (k1.symm.trans ho')
        subst this
        have hAA := I.hd.resolve_left (fun h => hni (h i hiH))
        have hdN : d < N := by simpa using k3
        have hy : YE P l.toArray A o₁ v a := (k4 D c ⟨I.fok.size, I.fok.defs, fun p hp => hAA.2 p (k5 p hp)⟩).of_same hsame.1 hsame.2
        refine wpOpIn_of_YE ho' hd.nd hAA.1 hy (fun w' hE => ih _ _ w' hs' hc' hcl' ⟨S, Ls, As, c, I.jt, I.stab, I.fok, I.stab _ _ hE I.aw, .inr ⟨hAs _ _ hE hAA.1, hAA.2⟩, ?_, ?_, ?_, ?_⟩)
        · intro j hj hjH
          rw [hset, ← I.tl j hj hjH]
          exact ⟨fun h => h.resolve_right (fun e => hjH (e ▸ hiH)), .inl⟩
        · rw [k2]; simp [Act.put, I.sz]
        · rw [k2]; exact I.df
        · intro t ht
          rw [k2]
          simp only [Act.put]
          by_cases hdt : d = t
          · subst hdt
            have e1 := hAA.2 _ k6
            have s1 : d < a.tmps.size := by rw [I.sz]; exact hdN
            have s2 : d < c.tmps.size := by rw [I.fok.size]; exact hdN
            simp [s1, s2] at e1 ⊢
            exact e1.symm
          · rw [Array.getElem?_setIfInBounds_ne hdt]
            refine I.ag t (fun h hh hn o' ho1 => ?_)
            by_cases hhi : h = i
            · subst hhi
              have : o' = o₁ := Option.some.inj (ho1.symm.trans ho')
              subst this
              rw [k2]; intro e; exact hdt (Option.some.inj e)
            · exact ht h hh (fun hl => hn (((hset h).1 hl).resolve_right hhi)) o' ho1
      · -- one of the others
        have hSi : S.testBit i = false := by
          cases hb : S.testBit i with
          | false => rfl
          | true => exact absurd ((I.tl i hil hiH).2 hb) hni
        have hleft := leftT_step (l := l) (H := H) hil hiH hSi
        have hjt := I.jt
        rw [hleft] at hjt
        have hready : i ∈ readyT l ms H S := by
          simp only [readyT, List.mem_filter, List.mem_range, Bool.and_eq_true, Bool.not_eq_true', List.all_eq_true, Bool.or_eq_true]
          refine ⟨hil, ⟨by simpa using hiH, hSi⟩, fun j hj => ?_⟩
          cases hb : (ms.getD i 0).testBit j with
          | false => exact .inl (.inl rfl)
          | true =>
            have hlj := hanc j hb
            by_cases hjH : j ∈ H
            · exact .inl (.inr (by simpa using hjH))
            · exact .inr ((I.tl j hj hjH).1 hlj)
        obtain ⟨o₁, ho1, hj⟩ := hjt i hready
        have : o₁ = o := Option.some.inj (ho1.symm.trans ho')
        subst this
        have hwp := hj c w I.fok I.aw
        -- behind it
        have fin : ∀ v w', wpListIn (Wf r) 0 P l.toArray (letOnly (fun a w => ∃ L' A', JT r P N l ms H Q D LH A (leftT l H (S ||| 2 ^ i)) (S ||| 2 ^ i) L' A' ∧ (∀ w w', Eff no w w' → A' w → A' w') ∧
            (freeB ms H i = true ∨ (∀ w, A' w → A w) ∧ dstFresh o₁ LH = true) ∧ FOK N D L' a ∧ A' w) Q) [] (c.put o₁.dst v) w' → wpAnyIn (Wf r) 0 P .any l.toArray Q fuel (b.setIfInBounds i true) (a.put o₁.dst v) w' := by
          intro v w' hk
          obtain ⟨L', A', q1, q2, q3, q4, q5⟩ : ∃ L' A', JT r P N l ms H Q D LH A (leftT l H (S ||| 2 ^ i)) (S ||| 2 ^ i) L' A' ∧ (∀ w w', Eff no w w' → A' w → A' w') ∧ (freeB ms H i = true ∨ (∀ w, A' w → A w) ∧ dstFresh o₁ LH = true) ∧ FOK N D L' (c.put o₁.dst v) ∧ A' w' := hk
          refine ih _ _ w' hs' hc' hcl' ⟨S ||| 2 ^ i, L', A', c.put o₁.dst v, q1, q2, q4, q5, ?_, ?_, ?_, ?_, ?_⟩
          · rcases q3 with q3 | ⟨q3, q6⟩
            · refine .inl (fun h hh => (hset h).2 (.inl (hanc h ?_)))
              simp only [freeB, List.all_eq_true] at q3
              exact q3 h hh
            · rcases I.hd with hI | ⟨_, hI⟩
              · exact .inl (fun h hh => (hset h).2 (.inl (hI h hh)))
              · refine .inr ⟨q3 _ q5, fun p hp => ?_⟩
                rw [← hI p hp]
                cases hdst : o₁.dst with
                | none => rfl
                | some d =>
                  simp only [dstFresh, hdst] at q6
                  have := fresh_ne q6 p hp
                  simp only [Act.put, Array.getD_eq_getD_getElem?]
                  rw [Array.getElem?_setIfInBounds_ne (fun e => this e.symm)]
          · intro j hj hjH
            rw [hset, Nat.testBit_or, Nat.testBit_two_pow, I.tl j hj hjH]
            by_cases hij : i = j
            · subst hij; simp
            · have : j ≠ i := fun e => hij e.symm
              simp [hij, this]
          · cases o₁.dst <;> simp [Act.put, I.sz]
          · cases o₁.dst <;> simp [Act.put, I.df]
          · intro t ht
            have hb := I.ag t (fun h hh hn o' ho2 => ht h hh (fun hl => hn (((hset h).1 hl).resolve_right (fun e => hiH (e ▸ hh)))) o' ho2)
            cases hdst : o₁.dst with
            | none => simpa [Act.put] using hb
            | some d =>
              simp only [Act.put]
              by_cases hdt : d = t
              · subst hdt
                rw [Array.getElem?_setIfInBounds_self, Array.getElem?_setIfInBounds_self, I.sz, I.fok.size]
              · rw [Array.getElem?_setIfInBounds_ne hdt, Array.getElem?_setIfInBounds_ne hdt]; exact hb
        unfold wpOpIn
        simp only [ho]
        simp only [wpListIn] at hwp
        rw [hsame.2]
        split
        · rename_i hw
          rw [if_pos hw] at hwp
          refine wpIn_agree hsame.1 hd.nd fin (fun d w' hk => ?_) hwp
          obtain ⟨L', A', _, _, _, q4, _⟩ : ∃ L' A', JT r P N l ms H Q D LH A (leftT l H (S ||| 2 ^ i)) (S ||| 2 ^ i) L' A' ∧ (∀ w w', Eff no w w' → A' w → A' w') ∧ (freeB ms H i = true ∨ (∀ w, A' w → A w) ∧ dstFresh o₁ LH = true) ∧ FOK N D L' (({ c with defers := d :: c.defers } : Act).put o₁.dst undef) ∧ A' w' := hk
          have e1 := q4.defs
          have e2 : (({ c with defers := d :: c.defers } : Act).put o₁.dst undef).defers = d :: c.defers := by cases o₁.dst <;> rfl
          rw [e2, I.fok.defs] at e1
          have := congrArg List.length e1
          simp at this
        · rename_i hw
          rw [if_neg hw] at hwp
          exact ⟨fun _ _ => trivial, fin undef w hwp.2⟩
end

section
variable {r : Option Nat} {P : Program} {N : Nat} {l : List Oper} {ms : List Nat} {Q : Exit → Act → World → Prop} {D : List Deferred} {L : List (Nat × Value)} {A : World → Prop}
/-- a region that draws, the operations hs being quiet -/
def JC (r : Option Nat) (P : Program) (N : Nat) (id : Nat) (l : List Oper) (Q : Exit → Act → World → Prop) (D : List Deferred) (L : List (Nat × Value)) (B A : World → Prop) (hs : List Nat) (Lk : List (Nat × Value)) : Prop :=
  DC P N l A L hs Lk → C r P N (.region id l.toArray true) Q D L B
theorem C.drawC {id : Nat} {B : World → Prop} (A : World → Prop) (h : JC r P N id l Q D L B A [] L) : C r P N (.region id l.toArray true) Q D L B := h .nil
theorem C.drawS {id : Nat} {B : World → Prop} (h : JC r P N id l Q D L B B [] L) : C r P N (.region id l.toArray true) Q D L B := h .nil
variable {B : World → Prop} {id k d n : Nat} {hs : List Nat} {Lk Lg : List (Nat × Value)} {o : Oper} {v : Value} {g : Bool}
theorem JC.q (k : Nat) (ho : nth l k = some o) (hg : o.guard = none) (hd : o.dst = some d) (hn : okd d N Lk = true) (hq : Qt P A o.op o.type Lk v)
    (h : JC r P N id l Q D L B A (k :: hs) ((d, v) :: Lk)) : JC r P N id l Q D L B A hs Lk := by
  intro H
  refine h (.cons H (nth_get ho) hd hn fun D a hf => .inl ⟨by simp [Region.wanted, hg], fun w hA => ?_⟩)
  unfold Oper.quietAt
  rw [hq N D a w o rfl rfl hf hA]
  exact ⟨rfl, rfl⟩
theorem JC.gQ (k : Nat) (ho : nth l k = some o) (hG : Gd l.toArray N Lk o g) (hd : o.dst = some d) (hn : okd d N Lk = true) (hs' : SelG g Lk Lg) (hq : g = true → Qt P A o.op o.type Lg v)
    (h : JC r P N id l Q D L B A (k :: hs) ((d, gv g v) :: Lk)) : JC r P N id l Q D L B A hs Lk := by
  intro H
  refine h (.cons H (nth_get ho) hd hn fun D a hf => ?_)
  have hw := hG D a hf
  cases hbw : g with
  | true =>
    refine .inl ⟨by rw [hw, hbw], fun w hA => ?_⟩
    unfold Oper.quietAt
    rw [hq hbw N D a w o rfl rfl (hs'.fok hbw hf) hA]
    exact ⟨rfl, by simp [gv]⟩
  | false => exact .inr ⟨by rw [hw, hbw], by simp [gv]⟩
theorem JC.callV {f : FuncId} {args : List Value} (k : Nat) (ho : nth l k = some o) (hg : o.guard = none) (hd : o.dst = some d) (hn : okd d N Lk = true)
    (hrun : ∀ D a w, FOK N D Lk a → (execOp a.eval o).run P w = .ok (.enter f args.toArray) w) (hc : ∀ w, A w → Calls P f args.toArray w (PostV v w))
    (h : JC r P N id l Q D L B A (k :: hs) ((d, v) :: Lk)) : JC r P N id l Q D L B A hs Lk := by
  intro H
  refine h (.cons H (nth_get ho) hd hn fun D a hf => .inl ⟨by simp [Region.wanted, hg], fun w hA => ?_⟩)
  unfold Oper.quietAt
  rw [hrun D a w hf]
  exact ⟨rfl, (hc w hA).mono fun _ _ ⟨h1, h2⟩ => ⟨h1, h2⟩⟩
theorem JC.gCall {f : FuncId} {args : List Value} (k : Nat) (ho : nth l k = some o) (hG : Gd l.toArray N Lk o g) (hd : o.dst = some d) (hn : okd d N Lk = true) (hs' : SelG g Lk Lg)
    (hrun : ∀ D a w, FOK N D Lg a → (execOp a.eval o).run P w = .ok (.enter f args.toArray) w) (hc : g = true → ∀ w, A w → Calls P f args.toArray w (PostV v w))
    (h : JC r P N id l Q D L B A (k :: hs) ((d, gv g v) :: Lk)) : JC r P N id l Q D L B A hs Lk := by
  intro H
  refine h (.cons H (nth_get ho) hd hn fun D a hf => ?_)
  have hw := hG D a hf
  cases hbw : g with
  | true =>
    refine .inl ⟨by rw [hw, hbw], fun w hA => ?_⟩
    unfold Oper.quietAt
    rw [hrun D a w (hs'.fok hbw hf)]
    exact ⟨rfl, by simpa [gv] using (hc hbw w hA).mono fun _ _ ⟨h1, h2⟩ => ⟨h1, h2⟩⟩
  | false => exact .inr ⟨by rw [hw, hbw], by simp [gv]⟩
/-- all quiet operations are told: now the others -/
theorem JC.tail {w₀ : World} {F : Nat → Prop} {M Φ M₁ Φ₁ : List Res} (ms : List Nat) (n : Nat) (hm : P.follows .mixedOrders = true) (hB : drawC l ms hs = true) (hn : leftT l hs 0 = n) (hAB : ∀ w, St w₀ F M₁ Φ₁ w → St w₀ F M Φ w)
    (T : JT r P N l ms hs Q D Lk (St w₀ F M Φ) n 0 Lk (St w₀ F M₁ Φ₁)) : JC r P N id l Q D L (St w₀ F M₁ Φ₁) (St w₀ F M Φ) hs Lk := by
  intro H a w hf hAw
  refine wpIn_region_any hm ?_
  have hrep : ∀ j, ¬ Lst (Array.replicate l.toArray.size false) j := by
    intro j; unfold Lst; simp [Array.getElem?_replicate]; split <;> simp
  obtain ⟨c, h1, h2⟩ := H.full hf
  have hst : ∀ w w', Eff no w w' → St w₀ F M Φ w → St w₀ F M Φ w' := fun _ _ hE h => h.ext hE
  have hst1 : ∀ w w', Eff no w w' → St w₀ F M₁ Φ₁ w → St w₀ F M₁ Φ₁ w' := fun _ _ hE h => h.ext hE
  refine draw_all hB H hst _ _ a _ (by simp) (by simp) (fun j o _ hl => absurd hl (hrep j)) ⟨0, Lk, _, c, hn ▸ T, hst1, h1, hAw.drew, .inr ⟨(hAB _ hAw).drew, fun p hp => h1.at_ p hp⟩, fun j _ _ => ?_, hf.size, hf.defs, fun t ht => h2 t (fun j hj o ho => ht j hj (hrep j) o ho)⟩
  have := hrep j
  simp only [Nat.zero_testBit, Bool.false_eq_true, iff_false]
  exact this

inductive AllR (p : Nat → Prop) : List Nat → Prop
  | nil : AllR p []
  | cons {i : Nat} {is : List Nat} (h : p i) (t : AllR p is) : AllR p (i :: is)
theorem AllR.all {p : Nat → Prop} {is : List Nat} (h : AllR p is) : ∀ i ∈ is, p i := by
  induction h with
  | nil => simp
  | cons h _ ih => intro i hi; rcases List.mem_cons.1 hi with rfl | hi; exact h; exact ih i hi

variable {H : List Nat} {LH : List (Nat × Value)} {A₀ : World → Prop} {S : Nat}
/-- the end of one operation of a region that draws -/
def DPost (r : Option Nat) (P : Program) (N : Nat) (l : List Oper) (ms H : List Nat) (Q : Exit → Act → World → Prop) (D : List Deferred) (LH : List (Nat × Value)) (A₀ : World → Prop) (n S i : Nat) (o : Oper) : Exit → Act → World → Prop :=
  letOnly (fun a w => ∃ L' A', JT r P N l ms H Q D LH A₀ n (S ||| 2 ^ i) L' A' ∧ (∀ w w', Eff no w w' → A' w → A' w') ∧ (freeB ms H i = true ∨ (∀ w, A' w → A₀ w) ∧ dstFresh o LH = true) ∧ FOK N D L' a ∧ A' w) Q
def DStep (r : Option Nat) (P : Program) (N : Nat) (l : List Oper) (ms H : List Nat) (Q : Exit → Act → World → Prop) (D : List Deferred) (LH : List (Nat × Value)) (A₀ : World → Prop) (n S : Nat) (L : List (Nat × Value)) (A : World → Prop) (i : Nat) : Prop :=
  ∃ o, l[i]? = some o ∧ J r P N l.toArray (DPost r P N l ms H Q D LH A₀ n S i o) [o] D L A
theorem JT.pick (is : List Nat) (hr : readyT l ms H S = is) (h : AllR (DStep r P N l ms H Q D LH A₀ n S L A) is) : JT r P N l ms H Q D LH A₀ (n + 1) S L A := by
  intro i hi
  rw [hr] at hi
  exact h.all i hi
theorem DStep.of {i : Nat} (ho : nth l i = some o) (h : J r P N l.toArray (DPost r P N l ms H Q D LH A₀ n S i o) [o] D L A) : DStep r P N l ms H Q D LH A₀ n S L A i := ⟨o, nth_get ho, h⟩
theorem JT.end_ (h : X N .normal Q D L A) : JT r P N l ms H Q D LH A₀ 0 S L A := h
/-- on to the next operation -/
theorem J.finF {i : Nat} {w₀ : World} {F : Nat → Prop} {M Φ : List Res} {S' : Nat} (hS : S ||| 2 ^ i = S') (hf : freeB ms H i = true) (h : JT r P N l ms H Q D LH A₀ n S' L (St w₀ F M Φ)) :
    J r P N l.toArray (DPost r P N l ms H Q D LH A₀ n S i o) [] D L (St w₀ F M Φ) := fun _ _ hk hA => ⟨L, _, hS ▸ h, fun _ _ hE h => h.ext hE, .inl hf, hk, hA⟩
theorem J.finD {i : Nat} {w₀ : World} {F : Nat → Prop} {M Φ : List Res} {S' : Nat} (hS : S ||| 2 ^ i = S') (hf : dstFresh o LH = true) (hd : ∀ w, St w₀ F M Φ w → A₀ w) (h : JT r P N l ms H Q D LH A₀ n S' L (St w₀ F M Φ)) :
    J r P N l.toArray (DPost r P N l ms H Q D LH A₀ n S i o) [] D L (St w₀ F M Φ) := fun _ _ hk hA => ⟨L, _, hS ▸ h, fun _ _ hE h => h.ext hE, .inr ⟨hd, hf⟩, hk, hA⟩
end
theorem St.sub {w₀ w : World} {F : Nat → Prop} {M M₀ Φ : List Res} (h : St w₀ F M Φ w) (hs : M₀.Sublist M) : St w₀ F M₀ Φ w :=
  ⟨h.eff, fun s hs' => h.own_ s (hs.subset hs'), h.apart.sublist hs, fun i hi => let ⟨a, b, c⟩ := h.imm i hi; ⟨a, b, fun s hs' => c s (hs.subset hs')⟩⟩
theorem nth_of_get {α : Type} {l : List α} {k : Nat} {x : α} (h : l[k]? = some x) : nth l k = some x := by
  induction l generalizing k with
  | nil => simp at h
  | cons y l ih => cases k with
    | zero => simpa [nth] using h
    | succ k => exact ih (by simpa using h)
theorem ldNB {A : World → Prop} {b o : Nat} {t : TypeId} {l vs : List Value} (n : Nat) (hn : ∀ w, A w → (bx b t l).φ w) (h : Tk l o n vs) : ∀ w, A w → Cells w b o vs := fun w hA => Cells.own (hn w hA : (own b (cl t l)).φ _) o vs h.eq.2
theorem ldNO {A : World → Prop} {X : Type} {b o sz i k : Nat} {enc : X → List Value} {xs : List X} {x : X} {vs : List Value} (n : Nat) (hn : ∀ w, A w → (rowO (some ⟨b, o, none⟩) sz enc xs).φ w) (hx : xs[i]? = some x) (hv : Tk (enc x) k n vs) : ∀ w, A w → Cells w b (o + i * sz + k) vs := by
  intro w hA
  obtain ⟨b', o', hb, hc⟩ := hn w hA i x hx
  cases hb
  exact hc.sub k hv.eq.2
theorem iter_start {I0 r s : Res} {w : World} (h1 : I0.φ w) (h2 : (sep r s).φ w) (h3 : Apart I0 (sep r s)) (h4 : ∀ b, I0.U b → b < w.heap.size) (h5 : ∀ b, (sep r s).U b → b < w.heap.size) : St w (fun b => I0.U b ∨ (sep r s).U b) [I0, r, s] [] w := by
  obtain ⟨hr, hs, ha⟩ := h2
  refine ⟨Eff.refl _ _, ?_, ?_, by simp⟩
  · intro t ht
    simp only [List.mem_cons, List.not_mem_nil, or_false] at ht
    rcases ht with rfl | rfl | rfl
    · exact ⟨h1, fun b hb => ⟨h4 b hb, .inl (.inl hb)⟩⟩
    · exact ⟨hr, fun b hb => ⟨h5 b (.inl hb), .inl (.inr (.inl hb))⟩⟩
    · exact ⟨hs, fun b hb => ⟨h5 b (.inr hb), .inl (.inr (.inr hb))⟩⟩
  · refine .cons (fun t ht => ?_) (.cons (fun t ht => ?_) (List.pairwise_singleton _ _))
    · simp only [List.mem_cons, List.not_mem_nil, or_false] at ht
      rcases ht with rfl | rfl
      · exact fun b hb hb' => h3 b hb (.inl hb')
      · exact fun b hb hb' => h3 b hb (.inr hb')
    · simp only [List.mem_singleton] at ht
      subst ht; exact ha
end Go.J
namespace Go.J
open Go Go.RowKit
section
variable {r : Option Nat} {P : Program} {N : Nat} {Q : Exit → Act → World → Prop} {K : List (Nat × Value)} {A : World → Prop} {c : Code} {G : Type}
theorem C.loopD {D : List Deferred} {L : List (Nat × Value)} (Dg : G → List Deferred) (Lg : G → List (Nat × Value)) (Ag : G → World → Prop) (μ : G → Nat) (g₀ : G) (hD : D = Dg g₀) (s : Sel L (Lg g₀)) (h₀ : ∀ w, A w → Ag g₀ w)
    (round : ∀ g, C r P N c (Exit.then (fun a w => ∃ g', FOK N (Dg g') (Lg g') a ∧ Ag g' w ∧ μ g' < μ g) Q) (Dg g) (Lg g) (Ag g)) : C r P N (.loop c) Q D L A := by
  intro a w hf hA
  classical
  have key : ∀ (n : Nat) (g : G), μ g = n → ∀ (b : Frame) (k : List Item) (cs : List Frame) (a : Act) (w : World), FOK N (Dg g) (Lg g) a → Ag g w → b.roundOf = (Wf r).round → (Wf r).fn b.fn → (Wf r).room (cs.length + 1 + 0) →
      ∃ e a' w', Q e a' w' ∧ ArrivesIn (Machine.fenced P (Wf r)) P (lone (b.atR a (.code c :: .inLoop c :: k)) cs w) b k cs e a' w' := by
    intro n
    induction n using Nat.strongRecOn with
    | _ n ih =>
      intro g hg b k cs a w hf hA hro hb hr
      obtain ⟨e, a₁, w₁, hq, harr⟩ := round g a w hf hA b (.inLoop c :: k) cs hro hb hr
      cases e with
      | normal =>
        obtain ⟨g', hf', hA', hlt⟩ := hq
        obtain ⟨e₂, a₂, w₂, hq₂, harr₂⟩ := ih (μ g') (hg ▸ hlt) g' rfl b k cs a₁ w₁ hf' hA' hro hb hr
        exact ⟨e₂, a₂, w₂, hq₂, .of_steps (StepsIn.trans harr (.one (fenced_calm hb hr rfl) stepR_inLoop)) harr₂⟩
      | exit id => exact ⟨_, a₁, w₁, hq, .pass (x := .inLoop c) rfl (fun _ _ => .inl (by simp)) harr⟩
      | goto l => exact ⟨_, a₁, w₁, hq, .pass (x := .inLoop c) rfl (fun _ _ => .inl (by simp)) harr⟩
      | ret => exact ⟨_, a₁, w₁, hq, .pass (x := .inLoop c) rfl (fun _ _ => .inl (by simp)) harr⟩
      | panic ch => exact ⟨_, a₁, w₁, hq, .pass (x := .inLoop c) rfl (fun _ _ => .inl (by simp)) harr⟩
      | outgrown => exact ⟨_, a₁, w₁, hq, .pass (x := .inLoop c) rfl (fun _ _ => .inl (by simp)) harr⟩
  intro b k cs hro hb hr
  subst hD
  obtain ⟨e, a', w', hq, harr⟩ := key _ g₀ rfl b k cs a w (hf.sel s) (h₀ w hA) hro hb hr
  exact ⟨e, a', w', hq, .of_steps (.one (fenced_calm hb hr rfl) stepR_loop) harr⟩
theorem X.nxD {D : List Deferred} {L : List (Nat × Value)} {Dg : G → List Deferred} {Lg : G → List (Nat × Value)} {Ag : G → World → Prop} {μ : G → Nat} {m : Nat} (g' : G) (hD : D = Dg g') (s : Sel L (Lg g')) (hA : ∀ w, A w → Ag g' w) (hμ : μ g' < m) :
    X N .normal (Exit.then (fun a w => ∃ g', FOK N (Dg g') (Lg g') a ∧ Ag g' w ∧ μ g' < m) Q) D L A := fun _ w hf h => ⟨g', hD ▸ hf.sel s, hA w h, hμ⟩
theorem C.loopD_0 {D : List Deferred}  (Dg : G → List Deferred) (Ag : G → World → Prop) (μ : G → Nat) (g₀ : G) (hD : D = Dg g₀) (h₀ : ∀ w, A w → Ag g₀ w)
    (round : ∀ g, C r P N c (Exit.then (fun a w => ∃ g', FOK N (Dg g') (K) a ∧ Ag g' w ∧ μ g' < μ g) Q) (Dg g) (K) (Ag g)) : C r P N (.loop c) Q D (K) A := by
  exact C.loopD Dg (fun _ => K) Ag μ g₀ hD Sel.refl h₀ round
theorem C.loopD_1 {D : List Deferred} {d1 : Nat} {v1 : Value} (f1 : G → Value) (Dg : G → List Deferred) (Ag : G → World → Prop) (μ : G → Nat) (g₀ : G) (hD : D = Dg g₀) (e1 : v1 = f1 g₀) (h₀ : ∀ w, A w → Ag g₀ w)
    (round : ∀ g, C r P N c (Exit.then (fun a w => ∃ g', FOK N (Dg g') ((d1, f1 g') :: K) a ∧ Ag g' w ∧ μ g' < μ g) Q) (Dg g) ((d1, f1 g) :: K) (Ag g)) : C r P N (.loop c) Q D ((d1, v1) :: K) A := by
  subst e1; exact C.loopD Dg (fun g => (d1, f1 g) :: K) Ag μ g₀ hD Sel.refl h₀ round
theorem C.loopD_2 {D : List Deferred} {d1 d2 : Nat} {v1 v2 : Value} (f1 : G → Value) (f2 : G → Value) (Dg : G → List Deferred) (Ag : G → World → Prop) (μ : G → Nat) (g₀ : G) (hD : D = Dg g₀) (e1 : v1 = f1 g₀) (e2 : v2 = f2 g₀) (h₀ : ∀ w, A w → Ag g₀ w)
    (round : ∀ g, C r P N c (Exit.then (fun a w => ∃ g', FOK N (Dg g') ((d1, f1 g') :: (d2, f2 g') :: K) a ∧ Ag g' w ∧ μ g' < μ g) Q) (Dg g) ((d1, f1 g) :: (d2, f2 g) :: K) (Ag g)) : C r P N (.loop c) Q D ((d1, v1) :: (d2, v2) :: K) A := by
  subst e1; subst e2; exact C.loopD Dg (fun g => (d1, f1 g) :: (d2, f2 g) :: K) Ag μ g₀ hD Sel.refl h₀ round
theorem C.loopD_3 {D : List Deferred} {d1 d2 d3 : Nat} {v1 v2 v3 : Value} (f1 : G → Value) (f2 : G → Value) (f3 : G → Value) (Dg : G → List Deferred) (Ag : G → World → Prop) (μ : G → Nat) (g₀ : G) (hD : D = Dg g₀) (e1 : v1 = f1 g₀) (e2 : v2 = f2 g₀) (e3 : v3 = f3 g₀) (h₀ : ∀ w, A w → Ag g₀ w)
    (round : ∀ g, C r P N c (Exit.then (fun a w => ∃ g', FOK N (Dg g') ((d1, f1 g') :: (d2, f2 g') :: (d3, f3 g') :: K) a ∧ Ag g' w ∧ μ g' < μ g) Q) (Dg g) ((d1, f1 g) :: (d2, f2 g) :: (d3, f3 g) :: K) (Ag g)) : C r P N (.loop c) Q D ((d1, v1) :: (d2, v2) :: (d3, v3) :: K) A := by
  subst e1; subst e2; subst e3; exact C.loopD Dg (fun g => (d1, f1 g) :: (d2, f2 g) :: (d3, f3 g) :: K) Ag μ g₀ hD Sel.refl h₀ round
theorem C.loopD_4 {D : List Deferred} {d1 d2 d3 d4 : Nat} {v1 v2 v3 v4 : Value} (f1 : G → Value) (f2 : G → Value) (f3 : G → Value) (f4 : G → Value) (Dg : G → List Deferred) (Ag : G → World → Prop) (μ : G → Nat) (g₀ : G) (hD : D = Dg g₀) (e1 : v1 = f1 g₀) (e2 : v2 = f2 g₀) (e3 : v3 = f3 g₀) (e4 : v4 = f4 g₀) (h₀ : ∀ w, A w → Ag g₀ w)
    (round : ∀ g, C r P N c (Exit.then (fun a w => ∃ g', FOK N (Dg g') ((d1, f1 g') :: (d2, f2 g') :: (d3, f3 g') :: (d4, f4 g') :: K) a ∧ Ag g' w ∧ μ g' < μ g) Q) (Dg g) ((d1, f1 g) :: (d2, f2 g) :: (d3, f3 g) :: (d4, f4 g) :: K) (Ag g)) : C r P N (.loop c) Q D ((d1, v1) :: (d2, v2) :: (d3, v3) :: (d4, v4) :: K) A := by
  subst e1; subst e2; subst e3; subst e4; exact C.loopD Dg (fun g => (d1, f1 g) :: (d2, f2 g) :: (d3, f3 g) :: (d4, f4 g) :: K) Ag μ g₀ hD Sel.refl h₀ round
theorem C.loopD_5 {D : List Deferred} {d1 d2 d3 d4 d5 : Nat} {v1 v2 v3 v4 v5 : Value} (f1 : G → Value) (f2 : G → Value) (f3 : G → Value) (f4 : G → Value) (f5 : G → Value) (Dg : G → List Deferred) (Ag : G → World → Prop) (μ : G → Nat) (g₀ : G) (hD : D = Dg g₀) (e1 : v1 = f1 g₀) (e2 : v2 = f2 g₀) (e3 : v3 = f3 g₀) (e4 : v4 = f4 g₀) (e5 : v5 = f5 g₀) (h₀ : ∀ w, A w → Ag g₀ w)
    (round : ∀ g, C r P N c (Exit.then (fun a w => ∃ g', FOK N (Dg g') ((d1, f1 g') :: (d2, f2 g') :: (d3, f3 g') :: (d4, f4 g') :: (d5, f5 g') :: K) a ∧ Ag g' w ∧ μ g' < μ g) Q) (Dg g) ((d1, f1 g) :: (d2, f2 g) :: (d3, f3 g) :: (d4, f4 g) :: (d5, f5 g) :: K) (Ag g)) : C r P N (.loop c) Q D ((d1, v1) :: (d2, v2) :: (d3, v3) :: (d4, v4) :: (d5, v5) :: K) A := by
  subst e1; subst e2; subst e3; subst e4; subst e5; exact C.loopD Dg (fun g => (d1, f1 g) :: (d2, f2 g) :: (d3, f3 g) :: (d4, f4 g) :: (d5, f5 g) :: K) Ag μ g₀ hD Sel.refl h₀ round
theorem C.loopD_6 {D : List Deferred} {d1 d2 d3 d4 d5 d6 : Nat} {v1 v2 v3 v4 v5 v6 : Value} (f1 : G → Value) (f2 : G → Value) (f3 : G → Value) (f4 : G → Value) (f5 : G → Value) (f6 : G → Value) (Dg : G → List Deferred) (Ag : G → World → Prop) (μ : G → Nat) (g₀ : G) (hD : D = Dg g₀) (e1 : v1 = f1 g₀) (e2 : v2 = f2 g₀) (e3 : v3 = f3 g₀) (e4 : v4 = f4 g₀) (e5 : v5 = f5 g₀) (e6 : v6 = f6 g₀) (h₀ : ∀ w, A w → Ag g₀ w)
    (round : ∀ g, C r P N c (Exit.then (fun a w => ∃ g', FOK N (Dg g') ((d1, f1 g') :: (d2, f2 g') :: (d3, f3 g') :: (d4, f4 g') :: (d5, f5 g') :: (d6, f6 g') :: K) a ∧ Ag g' w ∧ μ g' < μ g) Q) (Dg g) ((d1, f1 g) :: (d2, f2 g) :: (d3, f3 g) :: (d4, f4 g) :: (d5, f5 g) :: (d6, f6 g) :: K) (Ag g)) : C r P N (.loop c) Q D ((d1, v1) :: (d2, v2) :: (d3, v3) :: (d4, v4) :: (d5, v5) :: (d6, v6) :: K) A := by
  subst e1; subst e2; subst e3; subst e4; subst e5; subst e6; exact C.loopD Dg (fun g => (d1, f1 g) :: (d2, f2 g) :: (d3, f3 g) :: (d4, f4 g) :: (d5, f5 g) :: (d6, f6 g) :: K) Ag μ g₀ hD Sel.refl h₀ round
end
abbrev om (b : Nat) : Res := own b (.deferred (some []))
section
variable {w₀ w : World} {F : Nat → Prop} {M M' Φ : List Res}
theorem XL.marks {P : Program} {N : Nat} {fn : Func} {R : Ending → World → Prop} {L : List (Nat × Value)} : ∀ {bs : List Nat}, XL P N fn R [] L (St w₀ F M Φ) → XL P N fn R (bs.map mk) L (St w₀ F (M ++ bs.map om) Φ)
  | [], h => by simpa using h
  | b :: bs, h => by
    refine XL.mark (M' := M ++ own b (.deferred none) :: bs.map om) (Upd.append .here) ?_
    have h1 := XL.marks (bs := bs) h
    exact fun a w hf hA => h1 a w hf ((hA.permM List.perm_middle).dropM)
theorem St.addBoth {r s : Res} (h : St w₀ F M Φ w) (i j : Nat) (hi : nth Φ i = some r) (hj : nth Φ j = some s) : St w₀ F M (both r s :: Φ) w := by
  obtain ⟨a1, a2, a3⟩ := h.imm r (nth_mem hi)
  obtain ⟨b1, b2, b3⟩ := h.imm s (nth_mem hj)
  exact h.addΦ (i := both r s) ⟨a1, b1⟩ (fun b hb => hb.elim (a2 b) (b2 b)) (fun t ht b hb hb' => hb'.elim (a3 t ht b hb) (b3 t ht b hb))
theorem J.addBoth {x : Option Nat} {P : Program} {N : Nat} {ops : Array Oper} {Q : Exit → Act → World → Prop} {rest : List Oper} {D : List Deferred} {L : List (Nat × Value)} {r s : Res} (i j : Nat) (hi : nth Φ i = some r) (hj : nth Φ j = some s) (h : J x P N ops Q rest D L (St w₀ F M (both r s :: Φ))) : J x P N ops Q rest D L (St w₀ F M Φ) := h.conseq fun _ hA => hA.addBoth i j hi hj
/-- the new resource is the caller's own, and new -/
theorem J.callNF {r : Option Nat} {P : Program} {N : Nat} {ops : Array Oper} {Q : Exit → Act → World → Prop} {rest : List Oper} {D : List Deferred} {L : List (Nat × Value)} {o : Oper} {f : FuncId} {args : List Value} {d : Nat} {X : Type} {H : X → Prop} {V : X → Value} {rn : X → Res} (hg : o.guard = none) (hd : o.dst = some d) (hn : okd d N L = true) (hnd : notDefer o.op = true)
    (hrun : ∀ a w, FOK N D L a → (execOp a.eval o).run P w = .ok (.enter f args.toArray) w) (hc : ∀ w, St w₀ F M Φ w → Calls P f args.toArray w (PostN H V rn w))
    (k : ∀ x, H x → (∀ b, (rn x).U b → w₀.heap.size ≤ b) → J r P N ops Q rest D ((d, V x) :: L) (St w₀ F (rn x :: M) Φ)) : J r P N ops Q (o :: rest) D L (St w₀ F M Φ) :=
  J.callGen (X := { x // H x ∧ ∀ b, (rn x).U b → w₀.heap.size ≤ b }) (V := fun x => V x.1) (B := fun x => St w₀ F (rn x.1 :: M) Φ) hg hd hn hnd hrun (fun w hA => (hc w hA).mono fun _ _ ⟨x, hx, h1, h2, h3, h4⟩ => ⟨⟨x, hx, fun b hb => Nat.le_trans hA.le (h4 b hb).1⟩, h1, hA.extM h2 h3 h4⟩) (fun x => k x.1 x.2.1 x.2.2)
end
theorem C.rnd {P : Program} {N l rD : Nat} {rc : LoopState → Option Code → Loop} {assign body : Code} {L : List (Nat × Value)} {Φ : List Res} {R : World → Ending → World → Prop} {Mi : List Res} {w : World}
    (h : C (some l) P N assign (Exit.then (fun a₁ w₁ => ∃ w₂, (Instr.beginRound l).run P w₁ = .ok () w₂ ∧ body.wpIn (Wf (some l)) 0 P (roundPost P l (R w)) a₁ w₂) (fun _ _ _ => False)) [] L
      (St w (Us (own l (.loop (rc .ready none)) :: own rD (.deferred (some [])) :: Mi)) (own l (.loop (rc .ready none)) :: own rD (.deferred (some [])) :: Mi) Φ)) : Rnd P N l rD rc assign body L Φ R Mi w := h
section
variable {w₀ : World} {F : Nat → Prop} {M Φ : List Res} {X : Type} {b o sz i : Nat} {t : TypeId} {enc : X → List Value} {xs : List X} {x : X} {v : Value}
theorem ldO1 (j : Nat) (hj : nth Φ j = some (rowO (some ⟨b, o, none⟩) sz enc xs)) (hx : xs[i]? = some x) (hv : enc x = [v]) : ∀ w, St w₀ F M Φ w → Cells w b (o + i * sz) [v] := fun w hA => hv ▸ ldO j hj hx w hA
theorem ldM1 (j : Nat) (hj : nth M j = some (bx b t (xs.flatMap enc))) (hs : ∀ x, (enc x).length = sz) (hx : xs[i]? = some x) (hv : enc x = [v]) : ∀ w, St w₀ F M Φ w → Cells w b (0 + i * sz) [v] := fun w hA => hv ▸ ldMO j hj hs hx w hA
end
/-- a store into a part of an element of a row -/
theorem S.storeRP {P : Program} {L : List (Nat × Value)} {ty t : TypeId} {x y : Operand} {w₀ : World} {F : Nat → Prop} {M M' Φ : List Res} {b n : Nat} {T : TypeId} {X : Type} {enc : X → List Value} {xs : List X} {e e' : X} {i sz k : Nat} {vs : List Value} {v : Value} (hx : Ev L x (.pointer (some ⟨b, 0 + i * sz + k, none⟩))) (hy : Ev L y v) (hs : Sz P t n)
    (hz : ∀ x, (enc x).length = sz) (hv : v.cells = vs.toArray) (hn : vs.length = n) (h1 : ∀ u ∈ vs, u.oneCell' = true) (he : xs[i]? = some e) (hp : Pt (enc e) k vs (enc e')) (u : Upd M (bx b T (xs.flatMap enc)) M' (bx b T ((xs.set i e').flatMap enc))) :
    Sk P (St w₀ F M Φ) (.store t x y) ty L (St w₀ F M' Φ) := by
  obtain ⟨hp1, hp2⟩ := hp.eq
  have key : ∀ (xs : List X) (i : Nat), xs[i]? = some e → putAt (xs.flatMap enc) (i * sz + k) vs = (xs.set i e').flatMap enc ∧ i * sz + k + vs.length ≤ (xs.flatMap enc).length := by
    intro xs
    induction xs with
    | nil => intro i h; simp at h
    | cons z zs ih =>
      intro i h
      cases i with
      | zero =>
        simp at h; subst h
        refine ⟨?_, by simp; omega⟩
        simp only [List.flatMap_cons, List.set_cons_zero, Nat.zero_mul, Nat.zero_add, ← hp1, putAt]
        rw [List.take_append_of_le_length (by omega), List.drop_append_of_le_length (by omega)]
        simp
      | succ i =>
        obtain ⟨h1, h2⟩ := ih i (by simpa using h)
        have e1 : (i + 1) * sz = (enc z).length + i * sz := by rw [hz, Nat.add_mul]; omega
        refine ⟨?_, by rw [e1, List.flatMap_cons, List.length_append]; omega⟩
        simp only [List.flatMap_cons, List.set_cons_succ, ← h1]
        simp only [putAt, e1, Nat.add_assoc, List.take_length_add_append, List.drop_length_add_append, List.append_assoc]
  have kk := key xs i he
  refine S.store hx hy hs hv hn h1 u ?_ ?_
  · rw [Nat.zero_add, ← hn]; exact kk.2
  · rw [Nat.zero_add]; exact kk.1
/-- the resource in front -/
theorem St.front {w₀ w : World} {F : Nat → Prop} {M M' Φ : List Res} {r : Res} (h : St w₀ F M Φ w) (p : Pick M r M') : St w₀ F (r :: M') Φ w := h.permM p.perm
/-- what is owned, in another order, or less of it -/
inductive PermL : List Res → List Res → Prop
  | same {M : List Res} : PermL M M
  | drop {M : List Res} : PermL M []
  | cons {M M₁ M' : List Res} {r : Res} (p : Pick M r M₁) (h : PermL M₁ M') : PermL M (r :: M')
  | skip {M M' : List Res} {r : Res} (h : PermL M M') : PermL (r :: M) M'
theorem PermL.perm {M M' : List Res} (p : PermL M M') : ∃ N, M.Perm (M' ++ N) := by
  induction p with
  | same => exact ⟨[], by simp⟩
  | @drop M => exact ⟨M, by simp⟩
  | cons p _ ih => obtain ⟨N, hN⟩ := ih; exact ⟨N, p.perm.trans (hN.cons _)⟩
  | @skip M M' r _ ih => obtain ⟨N, hN⟩ := ih; exact ⟨r :: N, (hN.cons r).trans List.perm_middle.symm⟩
theorem St.to {w₀ w : World} {F : Nat → Prop} {M M' Φ : List Res} (h : St w₀ F M Φ w) (p : PermL M M') : St w₀ F M' Φ w := by
  obtain ⟨N, hN⟩ := p.perm
  exact (h.permM hN).sub (List.sublist_append_left _ _)
theorem ldF1 {w₀ : World} {F : Nat → Prop} {M Φ : List Res} {X : Type} {b sz i : Nat} {t : TypeId} {enc : X → List Value} {xs : List X} {x : X} {v : Value} (j : Nat) (hj : nth Φ j = some (bx b t (xs.flatMap enc))) (hs : ∀ x, (enc x).length = sz) (hx : xs[i]? = some x) (hv : enc x = [v]) : ∀ w, St w₀ F M Φ w → Cells w b (0 + i * sz) [v] := by
  intro w hA
  obtain ⟨b', o', hb, hc⟩ := bx_rowO (fun x _ => hs x) rfl (hA.see j hj : (bx b t (xs.flatMap enc)).φ w) i x hx
  cases hb; rw [← hv]; exact hc
theorem ldG1 {w₀ : World} {F : Nat → Prop} {M Φ : List Res} {X : Type} {b o sz i : Nat} {enc : X → List Value} {xs : List X} {x : X} {v : Value} {l : List Res} (j : Nat) (hj : nth Φ j = some (bigR l)) (hm : rowO (some ⟨b, o, none⟩) sz enc xs ∈ l) (hx : xs[i]? = some x) (hv : enc x = [v]) : ∀ w, St w₀ F M Φ w → Cells w b (o + i * sz) [v] := by
  intro w hA
  obtain ⟨b', o', hb, hc⟩ := (hA.see j hj : (bigR l).φ w) _ hm i x hx
  cases hb; rw [← hv]; exact hc
end Go.J
namespace Go.J
open Go Go.RowKit Go.Sort

theorem eff_grow {w w' : World} (h : Eff no w w') : ∃ q os', w' = grow (w.drewN q) os' := by
  refine ⟨w'.drawn - w.drawn, w'.heap.extract w.heap.size w'.heap.size, ?_⟩
  have h1 : w'.heap = w.heap ++ w'.heap.extract w.heap.size w'.heap.size := by
    apply Array.ext_getElem?
    intro i
    by_cases hi : i < w.heap.size
    · rw [Array.getElem?_append_left hi]
      exact h.block i hi (fun x => x)
    · rw [Array.getElem?_append_right (by omega), Array.getElem?_extract]
      by_cases hi2 : i < w'.heap.size
      · rw [if_pos (by omega)]; congr 1; omega
      · rw [if_neg (by omega)]; simp; omega
  have h2 := h.os; have h3 := h.tape; have h4 := h.output; have h5 := h.drawn
  cases w with | mk hp tp dr os out =>
  cases w' with | mk hp' tp' dr' os' out' =>
  simp only [grow, World.drewN] at *
  subst h2; subst h3; subst h4
  rw [← h1]
  congr 1
  omega

section
variable {α : Type} [Inhabited α] {enc : α → Value} {w : World} {b m : Nat} {T : TypeId} {d d' : List α} {rest : List Value} {os : Array Obj}
theorem putCells0 {cur : Array Value} (h : d.length ≤ cur.size) : putCells enc 0 d.toArray cur = (d.map enc ++ cur.toList.drop d.length).toArray := by
  apply Array.ext_getElem?
  intro i
  simp only [putCells, Array.getElem?_mapIdx, List.getElem?_toArray, Nat.zero_le, true_and, Nat.zero_add, Nat.sub_zero, List.size_toArray]
  by_cases hi : i < d.length
  · rw [List.getElem?_append_left (by simpa using hi), List.getElem?_map]
    have hc : i < cur.size := by omega
    simp [hi, hc]
  · rw [List.getElem?_append_right (by simpa using hi), List.getElem?_drop]
    simp only [hi, if_false, List.length_map]
    rw [show d.length + (i - d.length) = i by omega]
    simp
theorem holds_of (h : w.heap[b]? = some (cl T (d.map enc ++ rest))) : Holds enc w b 0 d.toArray := by
  intro j hj
  have hj' : j < d.length := by simpa using hj
  constructor
  · simp only [World.cell?, h, Nat.zero_add]
    simp [hj', List.getElem?_append_left (show j < (d.map enc).length by simpa using hj')]
  · simp [World.frozen?, h]
theorem sort_turns (h : w.heap[b]? = some (cl T (d.map enc ++ rest))) (hl : d'.length = d.length) :
    Eff (fun x => x = b) w (grow (putRow enc (Sort.ahead w m) b 0 d'.toArray) os) ∧ (grow (putRow enc (Sort.ahead w m) b 0 d'.toArray) os).heap[b]? = some (cl T (d'.map enc ++ rest)) := by
  have hb : b < w.heap.size := (Array.getElem?_eq_some_iff.1 h).1
  have hp : putCells enc 0 d'.toArray (d.map enc ++ rest).toArray = (d'.map enc ++ rest).toArray := by
    rw [putCells0 (by simp [hl])]
    congr 2
    simp [hl]
  constructor
  · refine ⟨rfl, rfl, rfl, ?_, ?_, ?_⟩
    · simp [grow, putRow, mapBlock, Sort.ahead]
    · intro x hx hne
      simp only [grow, putRow, mapBlock, Sort.ahead]
      rw [Array.getElem?_append_left (by simpa using hx), Array.getElem?_modify, if_neg (fun e => hne e.symm)]
    · simp [grow, putRow, mapBlock, Sort.ahead]
  · simp only [grow, putRow, mapBlock, Sort.ahead]
    rw [Array.getElem?_append_left (by simpa using hb), Array.getElem?_modify, if_pos rfl, h]
    simp [onCells, hp]
end

/-- slices.Sort at a slice of the caller's own that has grown -/
theorem sort_int_grown {P : Program} {ρ : Go.Shelf.Ren} (Ly : Go.Proofs.Lays.n189 P ρ) {T : TypeId} {a : Option Addr} {n c : Nat} {xs : List Int} {w : World} (hok : (rowG T 1 a n c (xs.map I64)).ok w) (hne : xs ≠ []) (hsz : xs.length < 4611686018427387904) :
    Calls P (ρ.f 189) [.slice a n c].toArray w (PostU (fun _ : Unit => True) (fun _ => .tuple #[]) (rowG T 1 a n c (xs.map I64)) (fun _ => rowG T 1 a n c ((xs.mergeSort fun x y => decide (x ≤ y)).map I64)) w) := by
  have hn := rowG.len hok.1
  have hn' : n = xs.length := by simpa using hn.symm
  subst hn'
  have hrow : w.ownsRow 0 T 1 (.slice a xs.length c) xs.length (xs.map I64) := hok.1
  rcases hrow.2 with ⟨_, h0⟩ | ⟨g, cap, cur, hv, hg0, hg, hnc, hcm, hcs, htake⟩
  · exact absurd (List.length_eq_zero_iff.1 h0) hne
  · injection hv with e1 e2 e3
    subst e1; subst e3
    have hcur : cur = (xs.map I64 ++ cur.toList.drop xs.length).toArray := by
      apply Array.ext'
      simp only [Nat.mul_one] at htake
      rw [← htake]; simp
    rw [hcur] at hg
    have hg' : w.heap[g]? = some (cl T (xs.map (Value.int .i64) ++ cur.toList.drop xs.length)) := hg
    have hgs : g < w.heap.size := (Array.getElem?_eq_some_iff.1 hg').1
    refine (Go.Proofs.Any.slices_Sort_int Ly g 0 c xs w (holds_of hg') hgs hsz).mono ?_
    rintro e w' ⟨rfl, m, os, rfl⟩
    obtain ⟨h1, h2⟩ := sort_turns (m := m) (os := os) (d' := xs.mergeSort fun x y => decide (x ≤ y)) hg' (by simp)
    refine ⟨(), trivial, rfl, h1.mono (fun x _ hx => ?_), ?_, ?_⟩
    · subst hx; rfl
    · refine ⟨by simp, .inr ⟨g, c, _, rfl, hg0, h2, hnc, hcm, ?_, ?_⟩⟩
      · have : cur.toList.length = c * 1 := by simpa using hcs
        simp; omega
      · simp
    · intro x hx
      have hx' : x = g := by simpa [rowG, Value.ownBlock] using hx
      subst hx'
      exact ⟨.inl rfl, Nat.lt_of_lt_of_le hgs h1.size⟩

open Go.Lib Go.Proofs Go.Shelf in
/-- slices.SortFunc at a row of numbers -/
theorem sortFunc_bx {P : Program} {ρ : Go.Shelf.Ren} {α : Type} [Inhabited α] (v : α → Int) (Ly : Go.Proofs.SlLaysF.n6 P ρ) (cf : α → α → Int) (hO : SWO (ltOf cf)) (g : Nat) (cb : List Value) (eg : En P g) {T : TypeId} {b cap : Nat} {xs : List α} {w : World} {Φ : List Res} (hok : (bx b T ((xs.map v).flatMap enI)).ok w) (hsz : xs.length < 4611686018427387904)
    (hΦ : ∀ r ∈ Φ, r.ok w ∧ ¬ r.U b) (hc : ∀ x y W, (∀ r ∈ Φ, r.ok W) → Calls P g ([I64 (v x), I64 (v y)] ++ cb).toArray W (PostV (.int .i64 (cf x y)) W)) :
    Calls P (ρ.f 6) [.slice (some ⟨b, 0, none⟩) xs.length cap, .func (.func g) [].toArray cb.toArray].toArray w (PostU (fun ys : List α => ys.Perm xs ∧ ys.Pairwise (fun x y => ltOf cf y x = false)) (fun _ => .tuple #[]) (bx b T ((xs.map v).flatMap enI)) (fun ys => bx b T ((ys.map v).flatMap enI)) w) := by
  have hb : w.heap[b]? = some (cl T (xs.map (fun x => I64 (v x)) ++ [])) := by
    have : w.heap[b]? = some (cl T ((xs.map v).flatMap enI)) := hok.1
    rw [this, flat_enI]; simp
  have hbs : b < w.heap.size := (Array.getElem?_eq_some_iff.1 hb).1
  have hcmp : CmpLays1 P g cb.toArray (fun x => I64 (v x)) cf b 0 xs.toArray.size w := by
    intro m os dk hdk x y
    have hs := sort_turns (m := m) (os := os) (d' := dk.toList) hb (by simpa using hdk)
    rw [show dk.toList.toArray = dk by simp] at hs
    have hw : ∀ r ∈ Φ, r.ok (sortWorld (fun x => I64 (v x)) w b 0 m dk os) := fun r hr => by
      obtain ⟨⟨h1, h2⟩, h3⟩ := hΦ r hr
      refine ⟨r.eff h1 hs.1 (fun c hcU => ⟨h2 c hcU, fun e => h3 (e ▸ hcU)⟩), fun c hcU => Nat.lt_of_lt_of_le (h2 c hcU) hs.1.size⟩
    have := hc x y _ hw
    rw [show (#[I64 (v x), I64 (v y)] ++ cb.toArray) = ([I64 (v x), I64 (v y)] ++ cb).toArray by simp]
    refine this.mono ?_
    rintro e w' ⟨rfl, hE⟩
    obtain ⟨q, os', h4⟩ := eff_grow hE
    exact ⟨rfl, q, os', h4⟩
  have hcon := Go.Proofs.Any.slices_SortFunc Ly (fun x => I64 (v x)) (fun _ => rfl) cf hO g cb.toArray b 0 cap xs.toArray w eg hcmp (holds_of hb) hbs (by simpa using hsz)
  simp only [List.size_toArray] at hcon
  refine hcon.mono ?_
  rintro e w' ⟨rfl, d', n, os, hp, hst, rfl⟩
  have hsz' : d'.size = xs.length := by simpa using hp.1
  have hs := sort_turns (m := n) (os := os) (d' := d'.toList) hb (by simpa using hsz')
  rw [show d'.toList.toArray = d' by simp] at hs
  refine ⟨d'.toList, ⟨?_, ?_⟩, rfl, hs.1.mono (fun x _ hx => by subst hx; rfl), ?_, fun x hx => ?_⟩
  · have := hp.2.2
    rw [show d'.extract 0 xs.length = d' by rw [← hsz']; simp, show xs.toArray.extract 0 xs.length = xs.toArray by simp] at this
    simpa using this
  · rw [List.pairwise_iff_getElem]
    intro i j hi hj hij
    have := hst i j (Nat.zero_le _) hij (by simpa [hsz'] using hj)
    have hi' : i < d'.size := by simpa using hi
    have hj' : j < d'.size := by simpa using hj
    simpa [getElem!_pos d' i hi', getElem!_pos d' j hj'] using this
  · show _ = some (cl T ((d'.toList.map v).flatMap enI))
    have h2 := hs.2
    rw [List.append_nil] at h2
    rw [flat_enI, List.map_map]
    exact h2
  · have : x = b := hx
    subst this
    exact ⟨.inl rfl, Nat.lt_of_lt_of_le hbs hs.1.size⟩
end Go.J
