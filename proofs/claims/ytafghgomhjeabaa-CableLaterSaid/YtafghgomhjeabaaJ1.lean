/- A small program logic over the kit's fenced rules: frames are read through short lists of slots; what is known of memory is one assertion. What is known of memory: resources that are owned one by one, and resources that are shared and stay as they are. The rules of the single operations. Regions that draw their order: reads and quiet calls in whatever order, then what is done behind all of them. A range over a function: what an iterator promises, and the loop over it. Contracts: how they are stated, how they are used; slices that are made. Guards within guards; more ways to name a rule's parts. Slices: literals, append, rows that are read. Loops and meeting points whose slots stand first. -/
import Derived.WalkKit
import Derived.TacticsIn
import Derived.RangeFuncIn
import Derived.Below
import Derived.Laws.StructEq
import Derived.Laws.Small
import Derived.Laws.Pointers
import Derived.Laws.Slices
import Derived.Laws.Strings
import Derived.Laws.Build
import Derived.Laws.Cells
import Derived.Laws.Entries
import Derived.Deep.Draws
import Derived.Laws.AppendOwn
import Derived.Laws.MakeOwn
import Derived.Laws.Tables
import Derived.IntWalk
import Derived.OrdersIn
import Derived.Deep.Quiet
import Derived.RangeFuncRecord
import Derived.RangeFuncSeq
set_option linter.unusedVariables false
set_option linter.unusedSimpArgs false
namespace Go.J
open Go Go.RowKit

abbrev Wf (r : Option Nat) : Fence := { Fence.wide with round := r }

/-- what is known of a frame -/
structure FOK (N : Nat) (D : List Deferred) (L : List (Nat × Value)) (a : Act) : Prop where
  size : a.tmps.size = N
  defs : a.defers = D
  at_ : ∀ p ∈ L, a.tmps.getD p.1 undef = p.2

def nth {α : Type} : List α → Nat → Option α
  | [], _ => none
  | x :: _, 0 => some x
  | _ :: l, n + 1 => nth l n

theorem nth_mem {α : Type} {l : List α} {i : Nat} {x : α} (h : nth l i = some x) : x ∈ l := by
  induction l generalizing i with
  | nil => simp [nth] at h
  | cons y l ih =>
    cases i with
    | zero => simp [nth] at h; simp [h]
    | succ i => exact List.mem_cons_of_mem _ (ih h)

def fresh (d : Nat) : List (Nat × Value) → Bool
  | [] => true
  | (t, _) :: l => bif Nat.beq t d then false else fresh d l

theorem fresh_ne {d : Nat} {L : List (Nat × Value)} (h : fresh d L = true) : ∀ p ∈ L, p.1 ≠ d := by
  induction L with
  | nil => simp
  | cons p L ih =>
    obtain ⟨t, v⟩ := p
    simp only [fresh] at h
    cases hb : Nat.beq t d with
    | true => simp [hb] at h
    | false =>
      simp [hb] at h
      intro q hq
      rcases List.mem_cons.1 hq with rfl | hq
      · exact Nat.ne_of_beq_eq_false hb
      · exact ih h q hq

def okd (d N : Nat) (L : List (Nat × Value)) : Bool := bif Nat.blt d N then fresh d L else false

theorem okd_lt {d N : Nat} {L : List (Nat × Value)} (h : okd d N L = true) : d < N := by
  unfold okd at h
  cases hb : Nat.blt d N with
  | true => simpa using hb
  | false => simp [hb] at h
theorem okd_fresh {d N : Nat} {L : List (Nat × Value)} (h : okd d N L = true) : fresh d L = true := by
  unfold okd at h
  cases hb : Nat.blt d N with
  | true => simpa [hb] using h
  | false => simp [hb] at h

section frames
variable {N : Nat} {D : List Deferred} {L : List (Nat × Value)} {a : Act}

theorem FOK.put (h : FOK N D L a) {d : Nat} {v : Value} (hd : okd d N L = true) : FOK N D ((d, v) :: L) (a.put (some d) v) := by
  have hlt := okd_lt hd
  have hf := fresh_ne (okd_fresh hd)
  refine ⟨by simpa [Act.put] using h.size, h.defs, fun p hp => ?_⟩
  have hsz : d < a.tmps.size := by rw [h.size]; exact hlt
  rcases List.mem_cons.1 hp with rfl | hp
  · simp [Act.put, hsz]
  · have hne : d ≠ p.1 := fun e => hf p hp e.symm
    have := h.at_ p hp
    simp only [Act.put, Array.getD_eq_getD_getElem?] at this ⊢
    rw [Array.getElem?_setIfInBounds_ne hne]
    exact this

theorem FOK.putNone (h : FOK N D L a) {v : Value} : FOK N D L (a.put none v) := h

/-- a shorter list of slots, in whatever order -/
def Sel (L L' : List (Nat × Value)) : Prop := ∀ p ∈ L', p ∈ L
theorem Sel.nil {L : List (Nat × Value)} : Sel L [] := fun _ h => absurd h (by simp)
theorem Sel.cons {L L' : List (Nat × Value)} {p : Nat × Value} (i : Nat) (h : nth L i = some p) (t : Sel L L') : Sel L (p :: L') := by
  intro q hq
  rcases List.mem_cons.1 hq with rfl | hq
  · exact nth_mem h
  · exact t q hq
theorem FOK.sel {L' : List (Nat × Value)} (h : FOK N D L a) (s : Sel L L') : FOK N D L' a := ⟨h.size, h.defs, fun p hp => h.at_ p (s p hp)⟩

/-- an operand's value -/
def Ev (L : List (Nat × Value)) (x : Operand) (v : Value) : Prop := ∀ (N : Nat) (D : List Deferred) (a : Act), FOK N D L a → a.eval x = v
theorem Ev.t {t : Nat} {v : Value} (i : Nat) (h : nth L i = some (t, v)) : Ev L (.tmp t) v := fun _ _ _ hf => hf.at_ _ (nth_mem h)
theorem Ev.c {v : Value} : Ev L (.const v) v := fun _ _ _ _ => rfl
theorem Ev.f {f : FuncId} : Ev L (.func f) (.func (.func f) #[] #[]) := fun _ _ _ _ => rfl
theorem Ev.g {g : Nat} : Ev L (.global g) (.pointer (some ⟨g, 0, none⟩)) := fun _ _ _ _ => rfl

/-- a list of operands' values -/
def Evs (L : List (Nat × Value)) (xs : List Operand) (vs : List Value) : Prop := ∀ (N : Nat) (D : List Deferred) (a : Act), FOK N D L a → xs.map a.eval = vs
theorem Evs.nil : Evs L [] [] := fun _ _ _ _ => rfl
theorem Evs.cons {x : Operand} {v : Value} {xs : List Operand} {vs : List Value} (h : Ev L x v) (t : Evs L xs vs) : Evs L (x :: xs) (v :: vs) :=
  fun N D a hf => by simp [h N D a hf, t N D a hf]
end frames

/-- an operation with a value, that leaves the world alone -/
def Qt (P : Program) (A : World → Prop) (op : Op) (ty : TypeId) (L : List (Nat × Value)) (v : Value) : Prop :=
  ∀ (N : Nat) (D : List Deferred) (a : Act) (w : World) (o : Oper), o.op = op → o.type = ty → FOK N D L a → A w → (execOp a.eval o).run P w = .ok (.value v) w

/-- an operation with a value, that may turn the world -/
def Ef (P : Program) (A : World → Prop) (op : Op) (ty : TypeId) (L : List (Nat × Value)) {X : Type} (V : X → Value) (B : X → World → Prop) : Prop :=
  ∀ (N : Nat) (D : List Deferred) (a : Act) (w : World) (o : Oper), o.op = op → o.type = ty → FOK N D L a → A w → ∃ x w', (execOp a.eval o).run P w = .ok (.value (V x)) w' ∧ B x w'

/-- an operation without a value -/
def Sk (P : Program) (A : World → Prop) (op : Op) (ty : TypeId) (L : List (Nat × Value)) (B : World → Prop) : Prop :=
  ∀ (N : Nat) (D : List Deferred) (a : Act) (w : World) (o : Oper), o.op = op → o.type = ty → FOK N D L a → A w → ∃ w', (execOp a.eval o).run P w = .ok .skip w' ∧ B w'

/-- operations of a region, one behind the other -/
def J (r : Option Nat) (P : Program) (N : Nat) (ops : Array Oper) (Q : Exit → Act → World → Prop) (rest : List Oper) (D : List Deferred) (L : List (Nat × Value)) (A : World → Prop) : Prop :=
  ∀ a w, FOK N D L a → A w → wpListIn (Wf r) 0 P ops Q rest a w

/-- code -/
def C (r : Option Nat) (P : Program) (N : Nat) (c : Code) (Q : Exit → Act → World → Prop) (D : List Deferred) (L : List (Nat × Value)) (A : World → Prop) : Prop :=
  ∀ a w, FOK N D L a → A w → c.wpIn (Wf r) 0 P Q a w

/-- what is left to show at an exit -/
def X (N : Nat) (e : Exit) (Q : Exit → Act → World → Prop) (D : List Deferred) (L : List (Nat × Value)) (A : World → Prop) : Prop :=
  ∀ a w, FOK N D L a → A w → Q e a w

def notDefer : Op → Bool
  | .defer _ => false
  | _ => true
theorem semAt_of {r : Option Nat} {ρ : Operand → Value} {o : Oper} (h : notDefer o.op = true) : Oper.semAt r ρ o = execOp ρ o :=
  Oper.semAt_eq r ρ o (fun c e => by rw [e] at h; simp [notDefer] at h)

section ops
variable {r : Option Nat} {P : Program} {N : Nat} {ops : Array Oper} {Q : Exit → Act → World → Prop} {rest : List Oper} {D : List Deferred} {L L' : List (Nat × Value)} {A : World → Prop} {o : Oper}

theorem J.keep (s : Sel L L') (h : J r P N ops Q rest D L' A) : J r P N ops Q rest D L A := fun a w hf hA => h a w (hf.sel s) hA
theorem J.conseq {A' : World → Prop} (hA : ∀ w, A w → A' w) (h : J r P N ops Q rest D L A') : J r P N ops Q rest D L A := fun a w hf h' => h a w hf (hA w h')
theorem J.pure_ {φ : Prop} (hA : ∀ w, A w → φ) (h : φ → J r P N ops Q rest D L A) : J r P N ops Q rest D L A := fun a w hf h' => h (hA w h') a w hf h'

theorem wp_plain {a : Act} {w : World} (hg : o.guard = none) (h : o.wpIn (Wf r) 0 P a w (wpListIn (Wf r) 0 P ops Q rest) Q) : wpListIn (Wf r) 0 P ops Q (o :: rest) a w := by
  simp only [wpListIn, Region.wanted, hg, if_true]; exact h

theorem J.q {d : Nat} {v : Value} (hg : o.guard = none) (hd : o.dst = some d) (hn : okd d N L = true) (hnd : notDefer o.op = true) (hq : Qt P A o.op o.type L v)
    (k : J r P N ops Q rest D ((d, v) :: L) A) : J r P N ops Q (o :: rest) D L A := by
  intro a w hf hA
  refine wp_plain hg ⟨fun _ _ => trivial, ?_⟩
  rw [semAt_of hnd, hq N D a w o rfl rfl hf hA]
  show wpListIn _ _ _ _ _ _ (a.put o.dst v) w
  rw [hd]
  exact k _ _ (hf.put hn) hA

/-- a value that nobody reads -/
theorem J.q0 {v : Value} (hg : o.guard = none) (hd : o.dst = none) (hnd : notDefer o.op = true) (hq : Qt P A o.op o.type L v)
    (k : J r P N ops Q rest D L A) : J r P N ops Q (o :: rest) D L A := by
  intro a w hf hA
  refine wp_plain hg ⟨fun _ _ => trivial, ?_⟩
  rw [semAt_of hnd, hq N D a w o rfl rfl hf hA]
  show wpListIn _ _ _ _ _ _ (a.put o.dst v) w
  rw [hd]
  exact k _ _ hf hA

theorem J.e {d : Nat} {X : Type} {V : X → Value} {B : X → World → Prop} (hg : o.guard = none) (hd : o.dst = some d) (hn : okd d N L = true) (hnd : notDefer o.op = true) (hq : Ef P A o.op o.type L V B)
    (k : ∀ x, J r P N ops Q rest D ((d, V x) :: L) (B x)) : J r P N ops Q (o :: rest) D L A := by
  intro a w hf hA
  obtain ⟨x, w', hr, hB⟩ := hq N D a w o rfl rfl hf hA
  refine wp_plain hg ⟨fun _ _ => trivial, ?_⟩
  rw [semAt_of hnd, hr]
  show wpListIn _ _ _ _ _ _ (a.put o.dst (V x)) w'
  rw [hd]
  exact k x _ _ (hf.put hn) hB

theorem J.e0 {X : Type} {V : X → Value} {B : X → World → Prop} (hg : o.guard = none) (hd : o.dst = none) (hnd : notDefer o.op = true) (hq : Ef P A o.op o.type L V B)
    (k : ∀ x, J r P N ops Q rest D L (B x)) : J r P N ops Q (o :: rest) D L A := by
  intro a w hf hA
  obtain ⟨x, w', hr, hB⟩ := hq N D a w o rfl rfl hf hA
  refine wp_plain hg ⟨fun _ _ => trivial, ?_⟩
  rw [semAt_of hnd, hr]
  show wpListIn _ _ _ _ _ _ (a.put o.dst (V x)) w'
  rw [hd]
  exact k x _ _ hf hB

theorem J.s {B : World → Prop} (hg : o.guard = none) (hd : o.dst = none) (hnd : notDefer o.op = true) (hq : Sk P A o.op o.type L B)
    (k : J r P N ops Q rest D L B) : J r P N ops Q (o :: rest) D L A := by
  intro a w hf hA
  obtain ⟨w', hr, hB⟩ := hq N D a w o rfl rfl hf hA
  refine wp_plain hg ⟨fun _ _ => trivial, ?_⟩
  rw [semAt_of hnd, hr]
  show wpListIn _ _ _ _ _ _ (a.put o.dst undef) w'
  rw [hd]
  exact k _ _ hf hB

/-! guarded operations: 'a && b', 'a || b' -/
theorem wanted_of {a : Act} {j d : Nat} {want b : Bool} (hg : o.guard = some (j, want)) (hj : (ops[j]?).bind (·.dst) = some d) (hb : a.eval (.tmp d) = .bool b) (hlt : d < a.tmps.size) :
    Region.wanted o (yielded ops a.tmps) = (b == want) := by
  have h1 : a.tmps[d]? = some (.bool b) := by
    simp only [Act.eval, Array.getD_eq_getD_getElem?] at hb
    rw [Array.getElem?_eq_getElem hlt] at hb ⊢
    simpa using hb
  simp [Region.wanted, hg, yielded, hj, h1]

/-- the guard lets the operation by -/
theorem J.gSkip {d j dj : Nat} {want b : Bool} (hg : o.guard = some (j, want)) (hj : (ops[j]?).bind (·.dst) = some dj) (hjn : Nat.blt dj N = true) (hb : Ev L (.tmp dj) (.bool b)) (hne : (b == want) = false)
    (hd : o.dst = some d) (hn : okd d N L = true) (k : J r P N ops Q rest D L A) : J r P N ops Q (o :: rest) D L A := by
  intro a w hf hA
  have hlt : dj < N := by simpa using hjn
  have hw := wanted_of (ops := ops) hg hj (hb N D a hf) (by rw [hf.size]; exact hlt)
  simp only [wpListIn, hw, hne]
  refine ⟨fun _ _ => trivial, ?_⟩
  rw [hd]
  have := hf.put (v := undef) hn
  exact k _ _ ⟨this.size, this.defs, fun p hp => this.at_ p (List.mem_cons_of_mem _ hp)⟩ hA
theorem J.gSkip0 {j dj : Nat} {want b : Bool} (hg : o.guard = some (j, want)) (hj : (ops[j]?).bind (·.dst) = some dj) (hjn : Nat.blt dj N = true) (hb : Ev L (.tmp dj) (.bool b)) (hne : (b == want) = false)
    (hd : o.dst = none) (k : J r P N ops Q rest D L A) : J r P N ops Q (o :: rest) D L A := by
  intro a w hf hA
  have hlt : dj < N := by simpa using hjn
  have hw := wanted_of (ops := ops) hg hj (hb N D a hf) (by rw [hf.size]; exact hlt)
  simp only [wpListIn, hw, hne]
  refine ⟨fun _ _ => trivial, ?_⟩
  rw [hd]
  exact k _ _ hf hA

/-- the operation as if it had no guard -/
def bare (o : Oper) : Oper := { o with guard := none }
theorem execOp_bare (ρ : Operand → Value) (o : Oper) : execOp ρ (bare o) = execOp ρ o := rfl
/-- the guard takes the operation -/
theorem J.gTake {j dj : Nat} {want b : Bool} (hg : o.guard = some (j, want)) (hj : (ops[j]?).bind (·.dst) = some dj) (hjn : Nat.blt dj N = true) (hb : Ev L (.tmp dj) (.bool b)) (heq : (b == want) = true)
    (k : J r P N ops Q (bare o :: rest) D L A) : J r P N ops Q (o :: rest) D L A := by
  intro a w hf hA
  have hlt : dj < N := by simpa using hjn
  have hw := wanted_of (ops := ops) hg hj (hb N D a hf) (by rw [hf.size]; exact hlt)
  have := k a w hf hA
  simp only [wpListIn, Region.wanted, bare, if_true] at this
  simp only [wpListIn, hw, heq, if_true]
  exact this

/-- a value under a guard -/
def gv (b : Bool) (v : Value) : Value := if b = true then v else undef

/-- slots as they read where the guard holds -/
def SelG (g : Bool) (L L' : List (Nat × Value)) : Prop := ∀ p ∈ L', g = true → p ∈ L ∨ (p.1, gv g p.2) ∈ L ∨ ∃ g', g' = true ∧ (p.1, gv g' p.2) ∈ L
theorem SelG.nil {g : Bool} {L : List (Nat × Value)} : SelG g L [] := fun _ h => absurd h (by simp)
theorem SelG.p {g : Bool} {L L' : List (Nat × Value)} {p : Nat × Value} (i : Nat) (h : nth L i = some p) (t : SelG g L L') : SelG g L (p :: L') := by
  intro q hq hgt
  rcases List.mem_cons.1 hq with rfl | hq
  · exact .inl (nth_mem h)
  · exact t q hq hgt
theorem SelG.g {g : Bool} {L L' : List (Nat × Value)} {s : Nat} {v : Value} (i : Nat) (h : nth L i = some (s, gv g v)) (t : SelG g L L') : SelG g L ((s, v) :: L') := by
  intro q hq hgt
  rcases List.mem_cons.1 hq with rfl | hq
  · exact .inr (.inl (nth_mem h))
  · exact t q hq hgt
theorem SelG.i {g g' : Bool} {L L' : List (Nat × Value)} {s : Nat} {v : Value} (i : Nat) (h : nth L i = some (s, gv g' v)) (hi : g = true → g' = true) (t : SelG g L L') : SelG g L ((s, v) :: L') := by
  intro q hq hgt
  rcases List.mem_cons.1 hq with rfl | hq
  · exact .inr (.inr ⟨g', hi hgt, nth_mem h⟩)
  · exact t q hq hgt
theorem SelG.fok {g : Bool} {L L' : List (Nat × Value)} {a : Act} (s : SelG g L L') (hg : g = true) (h : FOK N D L a) : FOK N D L' a := by
  refine ⟨h.size, h.defs, fun p hp => ?_⟩
  rcases s p hp hg with h1 | h1 | ⟨g', hg', h1⟩
  · exact h.at_ p h1
  · have := h.at_ _ h1; simpa [gv, hg] using this
  · have := h.at_ _ h1; simpa [gv, hg'] using this

/-- a quiet operation under a guard that is not decided: both ways go on as one -/
theorem J.gq {d j dj : Nat} {want b : Bool} {v : Value} {Lg : List (Nat × Value)} (hg : o.guard = some (j, want)) (hj : (ops[j]?).bind (·.dst) = some dj) (hjn : Nat.blt dj N = true) (hb : Ev L (.tmp dj) (.bool b))
    (hd : o.dst = some d) (hn : okd d N L = true) (hnd : notDefer o.op = true) (hs : SelG (b == want) L Lg) (hq : (b == want) = true → Qt P A o.op o.type Lg v)
    (k : J r P N ops Q rest D ((d, gv (b == want) v) :: L) A) : J r P N ops Q (o :: rest) D L A := by
  intro a w hf hA
  have hlt : dj < N := by simpa using hjn
  have hw := wanted_of (ops := ops) hg hj (hb N D a hf) (by rw [hf.size]; exact hlt)
  cases hbw : (b == want) with
  | true =>
    simp only [wpListIn, hw, hbw, if_true]
    refine ⟨fun _ _ => trivial, ?_⟩
    rw [semAt_of hnd, hq hbw N D a w o rfl rfl (hs.fok hbw hf) hA]
    show wpListIn _ _ _ _ _ _ (a.put o.dst v) w
    rw [hd]
    refine k _ _ ?_ hA
    have := hf.put (v := v) hn
    simpa [gv, hbw] using this
  | false =>
    simp only [wpListIn, hw, hbw]
    refine ⟨fun _ _ => trivial, ?_⟩
    rw [hd]
    refine k _ _ ?_ hA
    have := hf.put (v := undef) hn
    simpa [gv, hbw] using this

theorem J.end_ {y : Code} {Q' : Exit → Act → World → Prop} (h : C r P N y Q' D L A) : J r P N ops (Exit.then (y.wpIn (Wf r) 0 P Q') Q') [] D L A :=
  fun a w hf hA => h a w hf hA
theorem J.done (h : X N .normal Q D L A) : J r P N ops Q [] D L A := fun a w hf hA => h a w hf hA
end ops

section code
variable {r : Option Nat} {P : Program} {N : Nat} {Q : Exit → Act → World → Prop} {D : List Deferred} {L L' : List (Nat × Value)} {A : World → Prop}

theorem C.keep {c : Code} (s : Sel L L') (h : C r P N c Q D L' A) : C r P N c Q D L A := fun a w hf hA => h a w (hf.sel s) hA
theorem C.conseq {c : Code} {A' : World → Prop} (hA : ∀ w, A w → A' w) (h : C r P N c Q D L A') : C r P N c Q D L A := fun a w hf h' => h a w hf (hA w h')
theorem C.pure_ {c : Code} {φ : Prop} (hA : ∀ w, A w → φ) (h : φ → C r P N c Q D L A) : C r P N c Q D L A := fun a w hf h' => h (hA w h') a w hf h'
theorem C.seq {x y : Code} (h : C r P N x (Exit.then (y.wpIn (Wf r) 0 P Q) Q) D L A) : C r P N (.seq x y) Q D L A := fun a w hf hA => wpIn_seq (h a w hf hA)
theorem C.reg {id : Nat} {l : List Oper} (h : J r P N l.toArray Q l D L A) : C r P N (.region id l.toArray false) Q D L A := fun a w hf hA => wpIn_region_lit (h a w hf hA)
theorem C.cond {c : Operand} {x y : Code} {b : Bool} (hc : Ev L c (.bool b)) (ht : b = true → C r P N x Q D L A) (hf : b = false → C r P N y Q D L A) : C r P N (.cond c x y) Q D L A :=
  fun a w h hA => wpIn_cond_split (hc N D a h) (fun e => ht e a w h hA) (fun e => hf e a w h hA)
theorem C.block {id : Nat} {c : Code} (h : C r P N c (Exit.inBlock id Q) D L A) : C r P N (.block id c) Q D L A := fun a w hf hA => wpIn_block (h a w hf hA)
theorem C.skip (h : X N .normal Q D L A) : C r P N .skip Q D L A := fun a w hf hA => wpIn_skip (h a w hf hA)
theorem C.label {l : Nat} (h : X N .normal Q D L A) : C r P N (.label l) Q D L A := fun a w hf hA => wpIn_label (h a w hf hA)
theorem C.exit {id : Nat} (h : X N (.exit id) Q D L A) : C r P N (.exit id) Q D L A := fun a w hf hA => wpIn_exit (h a w hf hA)
theorem C.goto {l : Nat} (h : X N (.goto l) Q D L A) : C r P N (.goto l) Q D L A := fun a w hf hA => wpIn_goto (h a w hf hA)
theorem C.ret (h : X N .ret Q D L A) : C r P N .ret Q D L A := fun a w hf hA => wpIn_ret (h a w hf hA)

/-- the ways through x meet again behind it -/
theorem C.cut {x y : Code} {G : Type} (Lg : G → List (Nat × Value)) (Ag : G → World → Prop)
    (h : C r P N x (Exit.then (fun a w => ∃ g, FOK N D (Lg g) a ∧ Ag g w) Q) D L A) (k : ∀ g, C r P N y Q D (Lg g) (Ag g)) : C r P N (.seq x y) Q D L A := by
  intro a w hf hA
  refine wpIn_seq (wpIn_mono (h a w hf hA) ?_)
  intro e a w hq
  cases e with
  | normal => obtain ⟨g, hf, hA⟩ := hq; exact k g a w hf hA
  | exit id => exact hq
  | goto l => exact hq
  | ret => exact hq
  | panic c => exact hq
  | outgrown => exact hq
theorem X.meet {G : Type} {Lg : G → List (Nat × Value)} {Ag : G → World → Prop} (g : G) (s : Sel L (Lg g)) (hA : ∀ w, A w → Ag g w) :
    X N .normal (Exit.then (fun a w => ∃ g, FOK N D (Lg g) a ∧ Ag g w) Q) D L A := fun _ w hf h => ⟨g, hf.sel s, hA w h⟩

theorem C.loop {c : Code} {G : Type} (Lg : G → List (Nat × Value)) (Ag : G → World → Prop) (μ : G → Nat) (g₀ : G) (s : Sel L (Lg g₀)) (h₀ : ∀ w, A w → Ag g₀ w)
    (round : ∀ g, C r P N c (Exit.then (fun a w => ∃ g', FOK N D (Lg g') a ∧ Ag g' w ∧ μ g' < μ g) Q) D (Lg g) (Ag g)) : C r P N (.loop c) Q D L A := by
  intro a w hf hA
  classical
  have key : ∀ (n : Nat) (g : G), μ g = n → ∀ (b : Frame) (k : List Item) (cs : List Frame) (a : Act) (w : World), FOK N D (Lg g) a → Ag g w → b.roundOf = (Wf r).round → (Wf r).fn b.fn → (Wf r).room (cs.length + 1 + 0) →
      ∃ e a' w', Q e a' w' ∧ ArrivesIn (Machine.fenced P (Wf r)) P (lone (b.atR a (.code c :: .inLoop c :: k)) cs w) b k cs e a' w' := by
    intro n
    induction n using Nat.strongRecOn with
    | _ n ih =>
      intro g hg b k cs a w hf hA hro hb hr
      obtain ⟨e, a₁, w₁, hq, harr⟩ := round g a w hf hA b (.inLoop c :: k) cs hro hb hr
      cases e with
      | normal =>
        obtain ⟨g', hf', hA', hlt⟩ := hq
        obtain ⟨e₂, a₂, w₂, hq₂, harr₂⟩ := ih (μ g') (hg ▸ hlt) g' rfl b k cs a₁ w₁ hf' hA' hro hb hr
        exact ⟨e₂, a₂, w₂, hq₂, .of_steps (StepsIn.trans harr (.one (fenced_calm hb hr rfl) stepR_inLoop)) harr₂⟩
      | exit id => exact ⟨_, a₁, w₁, hq, .pass (x := .inLoop c) rfl (fun _ _ => .inl (by simp)) harr⟩
      | goto l => exact ⟨_, a₁, w₁, hq, .pass (x := .inLoop c) rfl (fun _ _ => .inl (by simp)) harr⟩
      | ret => exact ⟨_, a₁, w₁, hq, .pass (x := .inLoop c) rfl (fun _ _ => .inl (by simp)) harr⟩
      | panic ch => exact ⟨_, a₁, w₁, hq, .pass (x := .inLoop c) rfl (fun _ _ => .inl (by simp)) harr⟩
      | outgrown => exact ⟨_, a₁, w₁, hq, .pass (x := .inLoop c) rfl (fun _ _ => .inl (by simp)) harr⟩
  intro b k cs hro hb hr
  obtain ⟨e, a', w', hq, harr⟩ := key _ g₀ rfl b k cs a w (hf.sel s) (h₀ w hA) hro hb hr
  exact ⟨e, a', w', hq, .of_steps (.one (fenced_calm hb hr rfl) stepR_loop) harr⟩
theorem X.next {G : Type} {Lg : G → List (Nat × Value)} {Ag : G → World → Prop} {μ : G → Nat} {g : G} (g' : G) (s : Sel L (Lg g')) (hA : ∀ w, A w → Ag g' w) (hμ : μ g' < μ g) :
    X N .normal (Exit.then (fun a w => ∃ g', FOK N D (Lg g') a ∧ Ag g' w ∧ μ g' < μ g) Q) D L A := fun _ w hf h => ⟨g', hf.sel s, hA w h, hμ⟩

/-! exits -/
theorem X.keep {e : Exit} (s : Sel L L') (h : X N e Q D L' A) : X N e Q D L A := fun a w hf hA => h a w (hf.sel s) hA
theorem X.go {y : Code} (h : C r P N y Q D L A) : X N .normal (Exit.then (y.wpIn (Wf r) 0 P Q) Q) D L A := fun a w hf hA => h a w hf hA
theorem X.thenExit {i : Nat} {K : Act → World → Prop} (h : X N (.exit i) Q D L A) : X N (.exit i) (Exit.then K Q) D L A := h
theorem X.thenGoto {i : Nat} {K : Act → World → Prop} (h : X N (.goto i) Q D L A) : X N (.goto i) (Exit.then K Q) D L A := h
theorem X.thenRet {K : Act → World → Prop} (h : X N .ret Q D L A) : X N .ret (Exit.then K Q) D L A := h
theorem X.inNormal {id : Nat} (h : X N .normal Q D L A) : X N .normal (Exit.inBlock id Q) D L A := h
theorem X.inRet {id : Nat} (h : X N .ret Q D L A) : X N .ret (Exit.inBlock id Q) D L A := h
theorem X.inGoto {id i : Nat} (h : X N (.goto i) Q D L A) : X N (.goto i) (Exit.inBlock id Q) D L A := h
theorem X.inHit {id : Nat} (h : X N .normal Q D L A) : X N (.exit id) (Exit.inBlock id Q) D L A := fun a w hf hA => by
  simp only [Exit.inBlock, if_true]; exact h a w hf hA
theorem X.inMiss {id i : Nat} (hne : Nat.beq i id = false) (h : X N (.exit i) Q D L A) : X N (.exit i) (Exit.inBlock id Q) D L A := fun a w hf hA => by
  simp only [Exit.inBlock, Nat.ne_of_beq_eq_false hne, if_false]; exact h a w hf hA
end code
end Go.J
namespace Go.J
open Go Go.RowKit

/-- only blocks of F, and new ones, have turned -/
structure Eff (F : Nat → Prop) (w w' : World) : Prop where
  os : w'.os = w.os
  tape : w'.tape = w.tape
  output : w'.output = w.output
  size : w.heap.size ≤ w'.heap.size
  block : ∀ b, b < w.heap.size → ¬ F b → w'.heap[b]? = w.heap[b]?
  drawn : w.drawn ≤ w'.drawn

def no : Nat → Prop := fun _ => False

theorem Eff.refl (F : Nat → Prop) (w : World) : Eff F w w := ⟨rfl, rfl, rfl, Nat.le_refl _, fun _ _ _ => rfl, Nat.le_refl _⟩
theorem Eff.trans {F : Nat → Prop} {a b c : World} (h : Eff F a b) (k : Eff F b c) : Eff F a c :=
  ⟨k.os.trans h.os, k.tape.trans h.tape, k.output.trans h.output, Nat.le_trans h.size k.size, fun i hi hn => (k.block i (Nat.lt_of_lt_of_le hi h.size) hn).trans (h.block i hi hn), Nat.le_trans h.drawn k.drawn⟩
theorem Eff.mono {F G : Nat → Prop} {a b : World} (h : Eff F a b) (hg : ∀ x, x < a.heap.size → F x → G x) : Eff G a b :=
  ⟨h.os, h.tape, h.output, h.size, fun i hi hn => h.block i hi (fun hf => hn (hg i hi hf)), h.drawn⟩
/-- what turned beyond the first world is new to it -/
theorem Eff.trans' {F G : Nat → Prop} {a b c : World} (h : Eff F a b) (k : Eff G b c) (hg : ∀ x, x < a.heap.size → G x → F x) : Eff F a c :=
  ⟨k.os.trans h.os, k.tape.trans h.tape, k.output.trans h.output, Nat.le_trans h.size k.size, fun i hi hn => (k.block i (Nat.lt_of_lt_of_le hi h.size) (fun hk => hn (hg i hi hk))).trans (h.block i hi hn), Nat.le_trans h.drawn k.drawn⟩
theorem Eff.drew {F : Nat → Prop} (w : World) : Eff F w { w with drawn := w.drawn + 1 } := ⟨rfl, rfl, rfl, Nat.le_refl _, fun _ _ _ => rfl, Nat.le_succ _⟩
theorem Eff.alloc {F : Nat → Prop} (w : World) (o : Obj) : Eff F w (w.alloc o) := ⟨rfl, rfl, rfl, by simp, fun b hb _ => Below.heap_alloc w o b hb, Nat.le_refl _⟩
theorem Eff.of_grownBy {w w' : World} {row : Option Nat} (h : w.grownBy w' row) (hd : w.drawn ≤ w'.drawn) : Eff (fun b => some b = row) w w' := ⟨h.os, h.tape, h.output, h.size, fun b hb hn => h.block b hb hn, hd⟩

/-- a fact that rests on the blocks of U -/
structure Res where
  U : Nat → Prop
  φ : World → Prop
  st : ∀ w w' : World, w'.os = w.os → w'.tape = w.tape → w'.output = w.output ∧ w.drawn ≤ w'.drawn → w.heap.size ≤ w'.heap.size → (∀ b, U b → w'.heap[b]? = w.heap[b]?) → φ w → φ w'

theorem Res.eff {i : Res} {F : Nat → Prop} {w w' : World} (h : i.φ w) (hE : Eff F w w') (hU : ∀ b, i.U b → b < w.heap.size ∧ ¬ F b) : i.φ w' :=
  i.st w w' hE.os hE.tape ⟨hE.output, hE.drawn⟩ hE.size (fun b hb => hE.block b (hU b hb).1 (hU b hb).2) h

/-- one block, known whole -/
def own (b : Nat) (o : Obj) : Res where
  U := fun x => x = b
  φ := fun w => w.heap[b]? = some o
  st := fun _ _ _ _ _ _ hb h => (hb b rfl).trans h

abbrev cl (t : TypeId) (l : List Value) : Obj := .cells l.toArray t (0, 0)
abbrev bx (b : Nat) (t : TypeId) (l : List Value) : Res := own b (cl t l)

def Apart (r s : Res) : Prop := ∀ b, r.U b → ¬ s.U b
theorem Apart.symm {r s : Res} (h : Apart r s) : Apart s r := fun b h1 h2 => h b h2 h1

/-- the state of memory in a call that began in w₀ and may turn the blocks of F -/
structure St (w₀ : World) (F : Nat → Prop) (M Φ : List Res) (w : World) : Prop where
  eff : Eff F w₀ w
  own_ : ∀ r ∈ M, r.φ w ∧ ∀ b, r.U b → b < w.heap.size ∧ (F b ∨ w₀.heap.size ≤ b)
  apart : M.Pairwise Apart
  imm : ∀ i ∈ Φ, i.φ w ∧ (∀ b, i.U b → b < w.heap.size) ∧ ∀ r ∈ M, Apart r i

section st
variable {w₀ w w' : World} {F : Nat → Prop} {M M' Φ : List Res}

theorem St.start (w₀ : World) (F : Nat → Prop) : St w₀ F [] [] w₀ := ⟨Eff.refl _ _, by simp, .nil, by simp⟩

theorem St.get {r : Res} (h : St w₀ F M Φ w) (i : Nat) (hi : nth M i = some r) : r.φ w := (h.own_ r (nth_mem hi)).1
theorem St.see {r : Res} (h : St w₀ F M Φ w) (i : Nat) (hi : nth Φ i = some r) : r.φ w := (h.imm r (nth_mem hi)).1
theorem St.le (h : St w₀ F M Φ w) : w₀.heap.size ≤ w.heap.size := h.eff.size

/-- a step that turns nothing of what is known -/
theorem St.step {G : Nat → Prop} (h : St w₀ F M Φ w) (hE : Eff G w w') (hM : ∀ r ∈ M, ∀ b, r.U b → ¬ G b) (hΦ : ∀ r ∈ Φ, ∀ b, r.U b → ¬ G b) (hG : ∀ b, b < w₀.heap.size → G b → F b) : St w₀ F M Φ w' := by
  refine ⟨h.eff.trans' hE hG, fun r hr => ?_, h.apart, fun i hi => ?_⟩
  · obtain ⟨h1, h2⟩ := h.own_ r hr
    exact ⟨r.eff h1 hE (fun b hb => ⟨(h2 b hb).1, hM r hr b hb⟩), fun b hb => ⟨Nat.lt_of_lt_of_le (h2 b hb).1 hE.size, (h2 b hb).2⟩⟩
  · obtain ⟨h1, h2, h3⟩ := h.imm i hi
    exact ⟨i.eff h1 hE (fun b hb => ⟨h2 b hb, hΦ i hi b hb⟩), fun b hb => Nat.lt_of_lt_of_le (h2 b hb) hE.size, h3⟩

/-- a step that turns nothing that was there -/
theorem St.ext (h : St w₀ F M Φ w) (hE : Eff no w w') : St w₀ F M Φ w' :=
  h.step hE (fun _ _ _ _ hb => hb) (fun _ _ _ _ hb => hb) (fun _ _ hb => hb.elim)

theorem St.drew (h : St w₀ F M Φ w) : St w₀ F M Φ { w with drawn := w.drawn + 1 } := h.ext (Eff.drew w)

/-- a new owned resource: it lies in blocks beyond what was there -/
theorem St.addM {r : Res} {n : Nat} (h : St w₀ F M Φ w) (hn : ∀ r ∈ M, ∀ b, r.U b → b < n) (hnΦ : ∀ i ∈ Φ, ∀ b, i.U b → b < n) (hφ : r.φ w) (hU : ∀ b, r.U b → n ≤ b ∧ b < w.heap.size) (h0 : w₀.heap.size ≤ n) :
    St w₀ F (r :: M) Φ w := by
  refine ⟨h.eff, ?_, ?_, ?_⟩
  · intro s hs
    rcases List.mem_cons.1 hs with rfl | hs
    · exact ⟨hφ, fun b hb => ⟨(hU b hb).2, .inr (Nat.le_trans h0 (hU b hb).1)⟩⟩
    · exact h.own_ s hs
  · exact .cons (fun s hs b h1 h2 => absurd (hn s hs b h2) (Nat.not_lt.2 (hU b h1).1)) h.apart
  · intro i hi
    obtain ⟨h1, h2, h3⟩ := h.imm i hi
    refine ⟨h1, h2, fun s hs => ?_⟩
    rcases List.mem_cons.1 hs with rfl | hs
    · exact fun b hb1 hb2 => absurd (hnΦ i hi b hb2) (Nat.not_lt.2 (hU b hb1).1)
    · exact h3 s hs

/-- a new shared resource: in blocks that are not owned -/
theorem St.addΦ {i : Res} (h : St w₀ F M Φ w) (hφ : i.φ w) (hU : ∀ b, i.U b → b < w.heap.size) (hM : ∀ r ∈ M, Apart r i) : St w₀ F M (i :: Φ) w :=
  ⟨h.eff, h.own_, h.apart, fun j hj => by
    rcases List.mem_cons.1 hj with rfl | hj
    · exact ⟨hφ, hU, hM⟩
    · exact h.imm j hj⟩

/-- a step that lays new memory: a resource of the caller's own -/
theorem St.extM {r : Res} (h : St w₀ F M Φ w) (hE : Eff no w w') (hφ : r.φ w') (hU : ∀ b, r.U b → w.heap.size ≤ b ∧ b < w'.heap.size) : St w₀ F (r :: M) Φ w' :=
  (h.ext hE).addM (n := w.heap.size) (fun r hr b hb => ((h.own_ r hr).2 b hb).1) (fun i hi b hb => (h.imm i hi).2.1 b hb) hφ hU h.le
/-- a step that lays new memory: a shared resource -/
theorem St.extΦ {i : Res} (h : St w₀ F M Φ w) (hE : Eff no w w') (hφ : i.φ w') (hU : ∀ b, i.U b → w.heap.size ≤ b ∧ b < w'.heap.size) : St w₀ F M (i :: Φ) w' :=
  (h.ext hE).addΦ hφ (fun b hb => (hU b hb).2) (fun r hr b h1 h2 => absurd ((h.own_ r hr).2 b h1).1 (Nat.not_lt.2 (hU b h2).1))

/-- an owned resource becomes a shared one -/
theorem St.freeze {r : Res} (h : St w₀ F (r :: M) Φ w) : St w₀ F M (r :: Φ) w := by
  obtain ⟨hr, hM⟩ := List.pairwise_cons.1 h.apart
  refine ⟨h.eff, fun s hs => h.own_ s (List.mem_cons_of_mem _ hs), hM, ?_⟩
  intro i hi
  rcases List.mem_cons.1 hi with rfl | hi
  · have := h.own_ _ (List.mem_cons_self ..)
    exact ⟨this.1, fun b hb => (this.2 b hb).1, fun s hs => (hr s hs).symm⟩
  · obtain ⟨h1, h2, h3⟩ := h.imm i hi
    exact ⟨h1, h2, fun s hs => h3 s (List.mem_cons_of_mem _ hs)⟩

/-- fewer resources, in whatever order -/
theorem St.dropM {r : Res} (h : St w₀ F (r :: M) Φ w) : St w₀ F M Φ w :=
  ⟨h.eff, fun s hs => h.own_ s (List.mem_cons_of_mem _ hs), (List.pairwise_cons.1 h.apart).2, fun i hi => let ⟨a, b, c⟩ := h.imm i hi; ⟨a, b, fun s hs => c s (List.mem_cons_of_mem _ hs)⟩⟩
theorem St.permM (h : St w₀ F M Φ w) (hp : M.Perm M') : St w₀ F M' Φ w :=
  ⟨h.eff, fun s hs => h.own_ s (hp.mem_iff.2 hs), (hp.pairwise_iff (fun {_ _} => Apart.symm)).1 h.apart, fun i hi => let ⟨a, b, c⟩ := h.imm i hi; ⟨a, b, fun s hs => c s (hp.mem_iff.2 hs)⟩⟩
theorem St.subΦ {Ψ : List Res} (h : St w₀ F M Φ w) (hs : ∀ i ∈ Ψ, i ∈ Φ) : St w₀ F M Ψ w :=
  ⟨h.eff, h.own_, h.apart, fun i hi => h.imm i (hs i hi)⟩
def SelR (L L' : List Res) : Prop := ∀ p ∈ L', p ∈ L
theorem SelR.nil {L : List Res} : SelR L [] := fun _ h => absurd h (by simp)
theorem SelR.cons {L L' : List Res} {p : Res} (i : Nat) (h : nth L i = some p) (t : SelR L L') : SelR L (p :: L') := by
  intro q hq
  rcases List.mem_cons.1 hq with rfl | hq
  · exact nth_mem h
  · exact t q hq

/-- M' is M with r in the place of r₀ -/
inductive Upd : List Res → Res → List Res → Res → Prop
  | here {r₀ r : Res} {M : List Res} : Upd (r₀ :: M) r₀ (r :: M) r
  | there {r₀ r s : Res} {M M' : List Res} (h : Upd M r₀ M' r) : Upd (s :: M) r₀ (s :: M') r
/-- M is r and M' -/
inductive Pick : List Res → Res → List Res → Prop
  | here {r : Res} {M : List Res} : Pick (r :: M) r M
  | there {r s : Res} {M M' : List Res} (h : Pick M r M') : Pick (s :: M) r (s :: M')
theorem Pick.perm {M M' : List Res} {r : Res} (h : Pick M r M') : M.Perm (r :: M') := by
  induction h with
  | here => exact .refl _
  | there _ ih => exact (ih.cons _).trans (.swap _ _ _)
theorem Upd.perm {M M' : List Res} {r r₀ : Res} (h : Upd M r₀ M' r) : ∃ N, M.Perm (r₀ :: N) ∧ M'.Perm (r :: N) := by
  induction h with
  | here => exact ⟨_, .refl _, .refl _⟩
  | there _ ih =>
    obtain ⟨N, h1, h2⟩ := ih
    exact ⟨_ :: N, (h1.cons _).trans (.swap _ _ _), (h2.cons _).trans (.swap _ _ _)⟩

/-- an owned resource is turned, in its own blocks or into new ones -/
theorem St.upd {r₀ r : Res} (h : St w₀ F M Φ w) (u : Upd M r₀ M' r) (hE : Eff r₀.U w w') (hφ : r.φ w') (hU : ∀ b, r.U b → (r₀.U b ∨ w.heap.size ≤ b) ∧ b < w'.heap.size) : St w₀ F M' Φ w' := by
  obtain ⟨N, h1, h2⟩ := u.perm
  have h := h.permM h1
  obtain ⟨ha, hN⟩ := List.pairwise_cons.1 h.apart
  have hr0 := h.own_ _ (List.mem_cons_self ..)
  have hs : St w₀ F N Φ w' := by
    refine h.dropM.step hE (fun s hs b h1 h2 => ha s hs b h2 h1) (fun i hi b h1 h2 => ?_) ?_
    · exact (h.imm i hi).2.2 _ (List.mem_cons_self ..) b h2 h1
    · intro b hb hG
      rcases (hr0.2 b hG).2 with h3 | h3
      · exact h3
      · omega
  refine St.permM (M := r :: N) ⟨hs.eff, ?_, ?_, ?_⟩ h2.symm
  · intro s hs'
    rcases List.mem_cons.1 hs' with rfl | hs'
    · refine ⟨hφ, fun b hb => ⟨(hU b hb).2, ?_⟩⟩
      rcases (hU b hb).1 with h3 | h3
      · exact (hr0.2 b h3).2
      · exact .inr (Nat.le_trans h.le h3)
    · exact hs.own_ s hs'
  · refine .cons (fun s hs' b h3 h4 => ?_) hN
    have hs4 := ((h.own_ s (List.mem_cons_of_mem _ hs')).2 b h4).1
    rcases (hU b h3).1 with h5 | h5
    · exact ha s hs' b h5 h4
    · omega
  · intro i hi
    obtain ⟨h3, h4, h5⟩ := hs.imm i hi
    refine ⟨h3, h4, fun s hs' => ?_⟩
    rcases List.mem_cons.1 hs' with rfl | hs'
    · intro b h6 h7
      rcases (hU b h6).1 with h8 | h8
      · exact (h.imm i hi).2.2 _ (List.mem_cons_self ..) b h8 h7
      · have := (h.imm i hi).2.1 b h7; omega
    · exact h5 s hs'
end st

/-! cells -/
/-- some cells in a row -/
def Cells (w : World) (b o : Nat) (vs : List Value) : Prop := ∀ i v, vs[i]? = some v → w.cell? ⟨b, o + i, none⟩ = some v

theorem Cells.own {w : World} {b : Nat} {t : TypeId} {l : List Value} {fz : Nat × Nat} (h : w.heap[b]? = some (.cells l.toArray t fz)) (o : Nat) (vs : List Value) (hl : ∀ i v, vs[i]? = some v → l[o + i]? = some v) : Cells w b o vs := by
  intro i v hv
  simp only [World.cell?, h]
  simpa using hl i v hv
theorem Cells.all {w : World} {b : Nat} {t : TypeId} {l : List Value} {fz : Nat × Nat} (h : w.heap[b]? = some (.cells l.toArray t fz)) : Cells w b 0 l :=
  Cells.own h 0 l (fun i v hv => by simpa using hv)
theorem Cells.one {w : World} {b o : Nat} {v : Value} (h : w.cell? ⟨b, o, none⟩ = some v) : Cells w b o [v] := by
  intro i u hu
  cases i with
  | zero => simp at hu; subst hu; simpa using h
  | succ i => simp at hu
theorem Cells.at_ {w : World} {b o : Nat} {vs : List Value} (h : Cells w b o vs) (i : Nat) (v : Value) (hv : vs[i]? = some v) : w.cell? ⟨b, o + i, none⟩ = some v := h i v hv
theorem Cells.sub {w : World} {b o : Nat} {vs us : List Value} (h : Cells w b o vs) (k : Nat) (hl : ∀ i v, us[i]? = some v → vs[k + i]? = some v) : Cells w b (o + k) us := by
  intro i v hv
  rw [Nat.add_assoc]
  exact h (k + i) v (hl i v hv)
theorem Cells.keep {w w' : World} {b o : Nat} {vs : List Value} (h : Cells w b o vs) (hb : w'.heap[b]? = w.heap[b]?) : Cells w' b o vs := by
  intro i v hv
  rw [← h i v hv]
  simp [World.cell?, hb]
theorem Cells.lt {w : World} {b o : Nat} {v : Value} {vs : List Value} (h : Cells w b o (v :: vs)) : b < w.heap.size :=
  World.block_lt_of_cell? w _ (h 0 v rfl)

/-- a type whose values take one cell -/
def Sc (P : Program) (t : TypeId) : Prop := ∀ w, (isAgg t).run P w = .ok false w
/-- a type whose values take n cells, told together -/
def Ag (P : Program) (t : TypeId) (n : Nat) : Prop := (∀ w, (isAgg t).run P w = .ok true w) ∧ ∀ w, (sizeOf t).run P w = .ok n w
def Sz (P : Program) (t : TypeId) (n : Nat) : Prop := ∀ w, (sizeOf t).run P w = .ok n w

theorem run_loadVar_one {P : Program} {t : TypeId} (ht : Sc P t) {w : World} {a : Addr} {v : Value} (h : w.cell? a = some v) : (loadVar t a).run P w = .ok v w := by
  simp [loadVar, ht w, h]
theorem run_loadVar_agg {P : Program} {t : TypeId} {n : Nat} (ht : Ag P t n) {w : World} {b o : Nat} {vs : List Value} (hn : vs.length = n) (h : Cells w b o vs) : (loadVar t ⟨b, o, none⟩).run P w = .ok (.agg vs.toArray) w := by
  have := run_loadCells_list (P := P) w ⟨b, o, none⟩ vs (fun j v hv => by rw [Addr.add_lit]; exact h j v hv)
  simp [loadVar, ht.1 w, ht.2 w, ← hn, this]

section rules
variable {P : Program} {A : World → Prop} {L : List (Nat × Value)} {ty t : TypeId} {x y z : Operand}

theorem Q.load {b o : Nat} {v : Value} (hx : Ev L x (.pointer (some ⟨b, o, none⟩))) (ht : Sc P t) (hc : ∀ w, A w → Cells w b o [v]) : Qt P A (.load t x) ty L v := by
  intro N D a w o' ho _ hf hA
  have h1 : w.cell? ⟨b, o, none⟩ = some v := (hc w hA).at_ 0 v rfl
  simp [execOp, ho, hx N D a hf, Instr.loadAt, Instr.sureAddr, run_loadVar_one ht h1]
theorem Q.loads {b o n : Nat} {vs : List Value} (hx : Ev L x (.pointer (some ⟨b, o, none⟩))) (ht : Ag P t n) (hn : vs.length = n) (hc : ∀ w, A w → Cells w b o vs) : Qt P A (.load t x) ty L (.agg vs.toArray) := by
  intro N D a w o' ho _ hf hA
  simp [execOp, ho, hx N D a hf, Instr.loadAt, Instr.sureAddr, run_loadVar_agg ht hn (hc w hA)]

/-- a fresh box -/
theorem E.box {v : Value} {w₀ : World} {F : Nat → Prop} {M Φ : List Res} {vs : List Value} (hx : Ev L x v) (hv : v.cells = vs.toArray) :
    Ef P (St w₀ F M Φ) (.box t x) ty L (fun b : { b : Nat // w₀.heap.size ≤ b } => .pointer (some ⟨b.1, 0, none⟩)) (fun b => St w₀ F (bx b.1 t vs :: M) Φ) := by
  intro N D a w o' ho _ hf hA
  refine ⟨⟨w.heap.size, hA.le⟩, w.alloc (cl t vs), ?_, hA.extM (Eff.alloc w _) ?_ ?_⟩
  · simp [execOp, ho, hx N D a hf, Instr.box, newVar, newRow, hv]
  · exact heap_alloc_new w _
  · intro b hb; simp only [own] at hb; subst hb; simp
/-- a fresh variable -/
theorem E.alloc {w₀ : World} {F : Nat → Prop} {M Φ : List Res} {v : Value} {vs : List Value} (hz : ∀ w, (zeroValue t).run P w = .ok v w) (hv : v.cells = vs.toArray) :
    Ef P (St w₀ F M Φ) (.alloc t) ty L (fun b : { b : Nat // w₀.heap.size ≤ b } => .pointer (some ⟨b.1, 0, none⟩)) (fun b => St w₀ F (bx b.1 t vs :: M) Φ) := by
  intro N D a w o' ho _ hf hA
  refine ⟨⟨w.heap.size, hA.le⟩, w.alloc (cl t vs), ?_, hA.extM (Eff.alloc w _) ?_ ?_⟩
  · simp [execOp, ho, Instr.alloc, hz, newVar, newRow, hv]
  · exact heap_alloc_new w _
  · intro b hb; simp only [own] at hb; subst hb; simp

/-! stores -/
def putAt (l : List Value) (o : Nat) (vs : List Value) : List Value := l.take o ++ vs ++ l.drop (o + vs.length)

theorem run_storeVar_in {P : Program} {t : TypeId} {n b o : Nat} {w : World} {T : TypeId} {l vs : List Value} {v : Value} (hs : Sz P t n) (hn : vs.length = n) (hv : v.cells = vs.toArray) (h1 : ∀ u ∈ vs, u.oneCell' = true)
    (h : w.heap[b]? = some (cl T l)) (hl : o + n ≤ l.length) :
    (storeVar t ⟨b, o, none⟩ v).run P w = .ok () (w.setRow b (putAt l o vs).toArray) := by
  have hst := run_storeCells_at P b o T vs 0 l.toArray w h (by simp; omega) h1
  simp only [Nat.add_zero] at hst
  simp [storeVar, hs w, hv, hn, hst, putAt]

theorem Eff.setRow {w : World} {b : Nat} {cs : Array Value} : Eff (fun x => x = b) w (w.setRow b cs) :=
  ⟨rfl, rfl, rfl, by simp, fun x _ hx => setRow_other w b x cs hx, Nat.le_of_eq rfl⟩

theorem S.store {w₀ : World} {F : Nat → Prop} {M M' Φ : List Res} {b o n : Nat} {T : TypeId} {l vs l' : List Value} {v : Value} (hx : Ev L x (.pointer (some ⟨b, o, none⟩))) (hy : Ev L y v) (hs : Sz P t n)
    (hv : v.cells = vs.toArray) (hn : vs.length = n) (h1 : ∀ u ∈ vs, u.oneCell' = true) (u : Upd M (bx b T l) M' (bx b T l')) (hl : o + n ≤ l.length) (hp : putAt l o vs = l') :
    Sk P (St w₀ F M Φ) (.store t x y) ty L (St w₀ F M' Φ) := by
  intro N D a w o' ho _ hf hA
  have hb : w.heap[b]? = some (cl T l) := by
    obtain ⟨N', hp, _⟩ := u.perm
    exact (hA.own_ _ (hp.mem_iff.2 (List.mem_cons_self ..))).1
  subst hp
  refine ⟨_, ?_, hA.upd u (Eff.setRow (b := b) (cs := (putAt l o vs).toArray)) ?_ ?_⟩
  · simp [execOp, ho, hx N D a hf, hy N D a hf, Instr.storeAt, Instr.sureAddr, run_storeVar_in hs hn hv h1 hb hl]
  · exact setRow_heap w b _ _ _ _ hb
  · intro x hx
    simp only [own] at hx
    subst hx
    refine ⟨.inl rfl, ?_⟩
    rw [setRow_size]
    exact (Array.getElem?_eq_some_iff.1 hb).1
end rules
end Go.J
namespace Go.J
open Go Go.RowKit

section
variable {P : Program} {A : World → Prop} {L : List (Nat × Value)} {ty t : TypeId} {x y z : Operand} {u v : Value} {k : IntKind} {m n : Int}

theorem Q.move (h : Ev L x v) : Qt P A (.move x) ty L v := by
  intro N D a w o ho _ hf _; simp [execOp, ho, h N D a hf]
theorem Q.assign (h : Ev L x v) : Qt P A (.assign x) ty L v := by
  intro N D a w o ho _ hf _; simp [execOp, ho, h N D a hf]
theorem Q.pickT (hc : Ev L x (.bool true)) (h : Ev L y v) : Qt P A (.pick x y z) ty L v := by
  intro N D a w o ho _ hf _; simp [execOp, ho, h N D a hf, hc N D a hf, asBool]
theorem Q.pickF (hc : Ev L x (.bool false)) (h : Ev L z v) : Qt P A (.pick x y z) ty L v := by
  intro N D a w o ho _ hf _; simp [execOp, ho, h N D a hf, hc N D a hf, asBool]
/-- 'a && b' -/
theorem Q.and_ {b c : Bool} (hc : Ev L x (.bool b)) (h : Ev L y (gv (b == true) (.bool c))) : Qt P A (.pick x y (.const (.bool false))) ty L (.bool (b && c)) := by
  intro N D a w o ho _ hf _
  have e : a.eval (.const (.bool false)) = .bool false := rfl
  have h1 := h N D a hf
  cases b <;> simp [execOp, ho, h1, hc N D a hf, asBool, gv, e]
/-- 'a || b' -/
theorem Q.or_ {b c : Bool} (hc : Ev L x (.bool b)) (h : Ev L z (gv (b == false) (.bool c))) : Qt P A (.pick x (.const (.bool true)) z) ty L (.bool (b || c)) := by
  intro N D a w o ho _ hf _
  have e : a.eval (.const (.bool true)) = .bool true := rfl
  have h1 := h N D a hf
  cases b <;> simp [execOp, ho, h1, hc N D a hf, asBool, gv, e]

/-- whatever operation on two values, by its own run -/
theorem Q.bin {op : BinOp} {yt : TypeId} {r : Value} (hx : Ev L x u) (hy : Ev L y v) (hr : ∀ w, (do eqGuard op t x y u v; binOp op t u v : Sem Value).run P w = .ok r w) : Qt P A (.binOp op t x y yt) ty L r := by
  intro N D a w o ho _ hf _
  have := hr w
  simp only [execOp, ho, hx N D a hf, hy N D a hf, Sem.run_bind] at this ⊢
  simp [this]

theorem Q.addw {yt : TypeId} (hx : Ev L x (.int k m)) (hy : Ev L y (.int k n)) : Qt P A (.binOp .add t x y yt) ty L (.int k (k.wrap (m + n))) :=
  Q.bin hx hy (fun w => by simp [binOp, Op.intArith, eqGuard])
theorem Q.subw {yt : TypeId} (hx : Ev L x (.int k m)) (hy : Ev L y (.int k n)) : Qt P A (.binOp .sub t x y yt) ty L (.int k (k.wrap (m - n))) :=
  Q.bin hx hy (fun w => by simp [binOp, Op.intArith, eqGuard])
theorem Q.mulw {yt : TypeId} (hx : Ev L x (.int k m)) (hy : Ev L y (.int k n)) : Qt P A (.binOp .mul t x y yt) ty L (.int k (k.wrap (m * n))) :=
  Q.bin hx hy (fun w => by simp [binOp, Op.intArith, eqGuard])
theorem Q.quow {yt : TypeId} (hx : Ev L x (.int k m)) (hy : Ev L y (.int k n)) (h0 : n ≠ 0) : Qt P A (.binOp .quo t x y yt) ty L (.int k (k.wrap (m.tdiv n))) :=
  Q.bin hx hy (fun w => by simp [binOp, Op.intDiv, eqGuard, h0])
theorem Q.rem {yt : TypeId} (hx : Ev L x (.int k m)) (hy : Ev L y (.int k n)) (h0 : n ≠ 0) : Qt P A (.binOp .rem t x y yt) ty L (.int k (m.tmod n)) :=
  Q.bin hx hy (fun w => by simp [binOp, Op.intDiv, eqGuard, h0])
theorem Q.bits {op : BinOp} {yt : TypeId} (hx : Ev L x (.int k m)) (hy : Ev L y (.int k n)) (ho : op = .and ∨ op = .or ∨ op = .xor ∨ op = .andNot) : Qt P A (.binOp op t x y yt) ty L (.int k (bits op k m n)) := by
  rcases ho with rfl | rfl | rfl | rfl <;> exact Q.bin hx hy (fun w => by simp [binOp, eqGuard, intBits_and, intBits_or, intBits_xor, intBits_andNot])
theorem Q.shr {k' : IntKind} {yt : TypeId} (hx : Ev L x (.int k m)) (hy : Ev L y (.int k' n)) (h0 : 0 ≤ n) (h1 : n ≤ k.bits) : Qt P A (.binOp .shr t x y yt) ty L (.int k (m / 2 ^ n.toNat)) :=
  Q.bin hx hy (fun w => by simp [binOp, eqGuard, shift_shr k k' m n h0 h1])
theorem Q.shlw {k' : IntKind} {yt : TypeId} (hx : Ev L x (.int k m)) (hy : Ev L y (.int k' n)) (h0 : 0 ≤ n) (h1 : n ≤ k.bits) : Qt P A (.binOp .shl t x y yt) ty L (.int k (k.wrap (m * 2 ^ n.toNat))) :=
  Q.bin hx hy (fun w => by simp [binOp, eqGuard, shift_shl k k' m n h0 h1])

/-! sums that fit -/
theorem Q.add {yt : TypeId} (hx : Ev L x (.int .i64 m)) (hy : Ev L y (.int .i64 n)) (h : -9223372036854775808 ≤ m + n ∧ m + n ≤ 9223372036854775807) : Qt P A (.binOp .add t x y yt) ty L (.int .i64 (m + n)) := by
  have := Q.addw (P := P) (A := A) (ty := ty) (t := t) (yt := yt) hx hy; rwa [IntWalk.i64_in _ h] at this
theorem Q.sub {yt : TypeId} (hx : Ev L x (.int .i64 m)) (hy : Ev L y (.int .i64 n)) (h : -9223372036854775808 ≤ m - n ∧ m - n ≤ 9223372036854775807) : Qt P A (.binOp .sub t x y yt) ty L (.int .i64 (m - n)) := by
  have := Q.subw (P := P) (A := A) (ty := ty) (t := t) (yt := yt) hx hy; rwa [IntWalk.i64_in _ h] at this
theorem Q.mul {yt : TypeId} (hx : Ev L x (.int .i64 m)) (hy : Ev L y (.int .i64 n)) (h : -9223372036854775808 ≤ m * n ∧ m * n ≤ 9223372036854775807) : Qt P A (.binOp .mul t x y yt) ty L (.int .i64 (m * n)) := by
  have := Q.mulw (P := P) (A := A) (ty := ty) (t := t) (yt := yt) hx hy; rwa [IntWalk.i64_in _ h] at this
/-- a quotient of numbers from 0 on -/
theorem Q.quo {yt : TypeId} (hx : Ev L x (.int .i64 m)) (hy : Ev L y (.int .i64 n)) (h : 0 ≤ m ∧ m ≤ 9223372036854775807 ∧ 1 ≤ n) : Qt P A (.binOp .quo t x y yt) ty L (.int .i64 (m / n)) := by
  have := Q.quow (P := P) (A := A) (ty := ty) (t := t) (yt := yt) hx hy (by omega); rwa [IntWalk.i64_quo _ _ h] at this
theorem Q.remE {yt : TypeId} (hx : Ev L x (.int k m)) (hy : Ev L y (.int k n)) (h : 0 ≤ m ∧ 1 ≤ n) : Qt P A (.binOp .rem t x y yt) ty L (.int k (m % n)) := by
  have := Q.rem (P := P) (A := A) (ty := ty) (t := t) (yt := yt) hx hy (by omega); rwa [IntWalk.rem_in _ _ h.1] at this

theorem Q.lss {yt : TypeId} (hx : Ev L x (.int k m)) (hy : Ev L y (.int k n)) : Qt P A (.binOp .lss t x y yt) ty L (.bool (decide (m < n))) :=
  Q.bin hx hy (fun w => by simp [binOp, Op.intCmp, eqGuard])
theorem Q.leq {yt : TypeId} (hx : Ev L x (.int k m)) (hy : Ev L y (.int k n)) : Qt P A (.binOp .leq t x y yt) ty L (.bool (decide (m ≤ n))) :=
  Q.bin hx hy (fun w => by simp [binOp, Op.intCmp, eqGuard])
theorem Q.gtr {yt : TypeId} (hx : Ev L x (.int k m)) (hy : Ev L y (.int k n)) : Qt P A (.binOp .gtr t x y yt) ty L (.bool (decide (n < m))) :=
  Q.bin hx hy (fun w => by simp [binOp, Op.intCmp, eqGuard])
theorem Q.geq {yt : TypeId} (hx : Ev L x (.int k m)) (hy : Ev L y (.int k n)) : Qt P A (.binOp .geq t x y yt) ty L (.bool (decide (n ≤ m))) :=
  Q.bin hx hy (fun w => by simp [binOp, Op.intCmp, eqGuard])
theorem Q.eql {yt : TypeId} (hx : Ev L x (.int k m)) (hy : Ev L y (.int k n)) : Qt P A (.binOp .eql t x y yt) ty L (.bool (decide (m = n))) :=
  Q.bin hx hy (fun w => by simp [binOp, Op.intCmp, eqGuard]; rfl)
theorem Q.neq {yt : TypeId} (hx : Ev L x (.int k m)) (hy : Ev L y (.int k n)) : Qt P A (.binOp .neq t x y yt) ty L (.bool (decide (m ≠ n))) :=
  Q.bin hx hy (fun w => by simp [binOp, Op.intCmp, eqGuard, bne]; cases h : decide (m = n) <;> simp_all)
theorem Q.eqlB {yt : TypeId} {b c : Bool} (ht : P.underlying t = some .bool) (hx : Ev L x (.bool b)) (hy : Ev L y (.bool c)) : Qt P A (.binOp .eql t x y yt) ty L (.bool (b == c)) :=
  Q.bin hx hy (fun w => by have h1 : (do eqGuard .eql t x y (.bool b) (.bool c); binOp .eql t (.bool b) (.bool c) : Sem Value) = binOp .eql t (.bool b) (.bool c) := rfl
                           rw [h1, run_eql_bool w t b c ht])
theorem Q.neqB {yt : TypeId} {b c : Bool} (ht : P.underlying t = some .bool) (hx : Ev L x (.bool b)) (hy : Ev L y (.bool c)) : Qt P A (.binOp .neq t x y yt) ty L (.bool (b != c)) :=
  Q.bin hx hy (fun w => by have h1 : (do eqGuard .neq t x y (.bool b) (.bool c); binOp .neq t (.bool b) (.bool c) : Sem Value) = binOp .neq t (.bool b) (.bool c) := rfl
                           rw [h1, run_neq_bool w t b c ht]; rfl)

theorem Q.not_ {b : Bool} (hx : Ev L x (.bool b)) : Qt P A (.unOp .not t x) ty L (.bool (!b)) := by
  intro N D a w o ho _ hf _; simp [execOp, ho, hx N D a hf, Op.unary]
theorem Q.negw (hx : Ev L x (.int k m)) : Qt P A (.unOp .neg t x) ty L (.int k (k.wrap (0 - m))) := by
  intro N D a w o ho _ hf _; simp [execOp, ho, hx N D a hf, Op.unary, Op.intArith]
theorem Q.neg (hx : Ev L x (.int .i64 m)) (h : -9223372036854775808 ≤ -m ∧ -m ≤ 9223372036854775807) : Qt P A (.unOp .neg t x) ty L (.int .i64 (-m)) := by
  have := Q.negw (P := P) (A := A) (ty := ty) (t := t) hx; rwa [IntWalk.i64_in _ (by omega), Int.zero_sub] at this
theorem Q.convw {src dst : TypeId} {k' : IntKind} {d : TypeDesc} (hs : P.underlying src = some d) (hd : P.underlying dst = some (.int k')) (hx : Ev L x (.int k m)) : Qt P A (.convert src dst x) ty L (.int k' (k'.wrap m)) := by
  intro N D a w o ho _ hf _; simp [execOp, ho, hx N D a hf, convert, run_underlying hs, run_underlying hd, Conv.intToInt]
theorem Q.conv {src dst : TypeId} {k' : IntKind} {d : TypeDesc} (hs : P.underlying src = some d) (hd : P.underlying dst = some (.int k')) (hx : Ev L x (.int k m)) (hw : k'.wrap m = m) : Qt P A (.convert src dst x) ty L (.int k' m) := by
  have := Q.convw (P := P) (A := A) (ty := ty) hs hd hx; rwa [hw] at this

theorem Q.extract {l : List Value} {i : Nat} (hx : Ev L x (.tuple l.toArray)) (hi : nth l i = some v) : Qt P A (.extract x i) ty L v := by
  have h : l[i]? = some v := by
    clear hx
    induction l generalizing i with
    | nil => simp [nth] at hi
    | cons c l ih => cases i with
      | zero => simpa [nth] using hi
      | succ i => simpa using ih hi
  intro N D a w o ho _ hf _; simp [execOp, ho, hx N D a hf, Instr.extract, h]

/-- a field's place -/
theorem Q.fieldAddr {fs : Array Field} {fd : Field} {i b o s : Nat} (ht : P.underlying t = some (.struct fs)) (hf : fs[i]? = some fd) (hs : Sz P fd.type s) (h0 : s ≠ 0) (hx : Ev L x (.pointer (some ⟨b, o, none⟩))) :
    Qt P A (.fieldAddr t x i) ty L (.pointer (some ⟨b, o + fd.offset, none⟩)) := by
  intro N D a w o' ho _ hk _
  simp [execOp, ho, hx N D a hk, Instr.fieldAt, run_underlying ht, hf, Instr.sureAddr, fieldPlace, hs w, h0, Addr.add_lit]
theorem Q.indexAddr {e s b o len cap : Nat} (ht : P.underlying t = some (.slice e)) (hs : Sz P e s) (hx : Ev L x (.slice (some ⟨b, o, none⟩) len cap)) (hy : Ev L y (.int k m)) (h : 0 ≤ m ∧ m < len) :
    Qt P A (.indexAddr t x y) ty L (.pointer (some ⟨b, o + m.toNat * s, none⟩)) := by
  intro N D a w o' ho _ hk _
  simp [execOp, ho, hx N D a hk, hy N D a hk, Instr.indexAt, asIntOf, run_underlying ht, h.1, h.2, hs w, Addr.add_lit]
theorem Q.indexAddrA {e s b o len : Nat} (ht : P.underlying t = some (.array len e)) (hs : Sz P e s) (hx : Ev L x (.pointer (some ⟨b, o, none⟩))) (hy : Ev L y (.int k m)) (h : 0 ≤ m ∧ m < len) :
    Qt P A (.indexAddr t x y) ty L (.pointer (some ⟨b, o + m.toNat * s, none⟩)) := by
  intro N D a w o' ho _ hk _
  simp [execOp, ho, hx N D a hk, hy N D a hk, Instr.indexAt, asIntOf, run_underlying ht, h.1, h.2, hs w, Addr.add_lit, Instr.sureAddr]
theorem Q.nilCheck {p : Addr} (hx : Ev L x (.pointer (some p))) : Qt P A (.nilCheck x) ty L (.pointer (some p)) := by
  intro N D a w o ho _ hf _; simp [execOp, ho, hx N D a hf]
theorem Q.makeFunc {f : Fn} {first captured : List Operand} {us vs : List Value} (h1 : Evs L first us) (h2 : Evs L captured vs) : Qt P A (.makeFunc f first.toArray captured.toArray) ty L (.func f us.toArray vs.toArray) := by
  intro N D a w o ho _ hf _
  simp [execOp, ho, Instr.makeFunc, h1 N D a hf, h2 N D a hf]
theorem Q.makeInterface (ht : P.concrete t = true) (hx : Ev L x v) : Qt P A (.makeInterface t x) ty L (.iface t v) := by
  intro N D a w o ho _ hf _; simp [execOp, ho, hx N D a hf, run_makeInterface w t v ht]

/-- a field of a struct's value: one cell -/
theorem Q.field {fs : Array Field} {fd : Field} {i : Nat} {cs : List Value} (ht : P.underlying t = some (.struct fs)) (hf : fs[i]? = some fd) (hs : Sc P fd.type) (hx : Ev L x (.agg cs.toArray)) (hv : nth cs fd.offset = some v) :
    Qt P A (.field t x i) ty L v := by
  have h : cs[fd.offset]? = some v := by
    clear hx
    generalize fd.offset = j at hv
    induction cs generalizing j with
    | nil => simp [nth] at hv
    | cons c l ih => cases j with
      | zero => simpa [nth] using hv
      | succ i => simpa using ih _ hv
  intro N D a w o ho _ hk _; simp [execOp, ho, hx N D a hk, Instr.field, run_underlying ht, hf, asAgg, part, hs w, h]
/-- a field of a struct's value: several cells -/
theorem Q.fields {fs : Array Field} {fd : Field} {i n : Nat} {cs vs : List Value} (ht : P.underlying t = some (.struct fs)) (hf : fs[i]? = some fd) (hs : Ag P fd.type n) (hx : Ev L x (.agg cs.toArray)) (hv : (cs.drop fd.offset).take n = vs) :
    Qt P A (.field t x i) ty L (.agg vs.toArray) := by
  intro N D a w o ho _ hk _
  have he : (cs.toArray.extract fd.offset (fd.offset + n)) = vs.toArray := by
    rw [← hv]; simp
  simp [execOp, ho, hx N D a hk, Instr.field, run_underlying ht, hf, asAgg, part, hs.1 w, hs.2 w]
  simpa using he

/-- a string's byte -/
theorem Q.indexS {s : ByteArray} {b : UInt8} (ht : P.underlying t = some .string) (hx : Ev L x (.string s)) (hy : Ev L y (.int k m)) (h0 : 0 ≤ m) (hb : s[m.toNat]? = some b) : Qt P A (.index t x y) ty L (.int .u8 b.toNat) := by
  intro N D a w o ho _ hf _
  simp [execOp, ho, hx N D a hf, hy N D a hf, Instr.index, asIntOf, run_underlying ht, h0, hb]

/-! builtins -/
theorem Q.builtin {b : Builtin} {xs : List Operand} {vs : List Value} {ats : Array TypeId} {r : Value} (hx : Evs L xs vs) (hr : ∀ cs w, (builtin b ats ty cs vs.toArray).run P w = .ok (.value r) w) :
    Qt P A (.call { callee := .builtin b, args := xs.toArray, argTypes := ats }) ty L r := by
  intro N D a w o ho ht hf _
  have h1 := hx N D a hf
  simp [execOp, ho, resolve, invoke, h1, ht, hr]
theorem Q.len {b : Option Addr} {n c : Nat} {e : TypeId} (ht : P.underlying t = some (.slice e)) (hx : Ev L x (.slice b n c)) : Qt P A (.call { callee := .builtin .len, args := [x].toArray, argTypes := #[t] }) ty L (.int .i64 n) :=
  Q.builtin (.cons hx .nil) (fun _ w => by simp [Go.builtin, Builtin.len_, run_underlying ht, goInt])
theorem Q.lenS {s : ByteArray} (ht : P.underlying t = some .string) (hx : Ev L x (.string s)) : Qt P A (.call { callee := .builtin .len, args := [x].toArray, argTypes := #[t] }) ty L (.int .i64 s.size) :=
  Q.builtin (.cons hx .nil) (fun _ w => by simp [Go.builtin, Builtin.len_, run_underlying ht, goInt])
theorem Q.cap {b : Option Addr} {n c : Nat} {e : TypeId} (ht : P.underlying t = some (.slice e)) (hx : Ev L x (.slice b n c)) : Qt P A (.call { callee := .builtin .cap, args := [x].toArray, argTypes := #[t] }) ty L (.int .i64 c) :=
  Q.builtin (.cons hx .nil) (fun _ w => by simp [Go.builtin, Builtin.cap_, run_underlying ht, goInt])
theorem Q.min2 {ats : Array TypeId} (hx : Ev L x (.int k m)) (hy : Ev L y (.int k n)) : Qt P A (.call { callee := .builtin .min, args := [x, y].toArray, argTypes := ats }) ty L (.int k (min m n)) :=
  Q.builtin (.cons hx (.cons hy .nil)) (fun _ w => by
    have : (if n < m then n else m) = min m n := by omega
    simp [Go.builtin, Builtin.min_, Builtin.min2, this])
theorem Q.max2 {ats : Array TypeId} (hx : Ev L x (.int k m)) (hy : Ev L y (.int k n)) : Qt P A (.call { callee := .builtin .max, args := [x, y].toArray, argTypes := ats }) ty L (.int k (max m n)) :=
  Q.builtin (.cons hx (.cons hy .nil)) (fun _ w => by
    have : (if m < n then n else m) = max m n := by omega
    simp [Go.builtin, Builtin.max_, Builtin.max2, this])

/-! slices of slices -/
theorem Q.slice {e s l h len cap b o : Nat} {lo hi : Option Operand} (ht : P.underlying t = some (.slice e)) (hs : Sz P e s) (hx : Ev L x (.slice (some ⟨b, o, none⟩) len cap))
    (hlo : match lo with | none => l = 0 | some y => ∃ k, Ev L y (.int k (l : Int))) (hhi : match hi with | none => h = len | some y => ∃ k, Ev L y (.int k (h : Int))) (h1 : l ≤ h) (h2 : h ≤ cap) (hlc : len ≤ cap) :
    Qt P A (.slice t x lo hi none) ty L (.slice (some ⟨b, if cap = l then o else o + l * s, none⟩) (h - l) (cap - l)) := by
  intro N D a w o' ho _ hk _
  have e1 : ∀ m : Nat, (if m = l then (⟨b, o, none⟩ : Addr) else ⟨b, o + l * s, none⟩) = ⟨b, if m = l then o else o + l * s, none⟩ := fun m => by split <;> rfl
  have hl0 : (0 : Int) ≤ l := by omega
  have hh0 : (0 : Int) ≤ h := by omega
  cases lo with
  | none =>
    simp only at hlo; subst hlo
    cases hi with
    | none =>
      simp only at hhi; subst hhi
      simp [execOp, ho, hx N D a hk, Instr.sliceAt, Instr.slice, run_underlying ht, Instr.sliceBounds, hs w]
      by_cases hc : cap = 0 <;> simp [hc, Addr.add]
    | some y =>
      obtain ⟨k', hy⟩ := hhi
      simp [execOp, ho, hx N D a hk, hy N D a hk, Instr.sliceAt, Instr.slice, run_underlying ht, Instr.sliceBounds, Instr.sliceBound, asIntOf, hs w, hh0, h2]
      by_cases hc : cap = 0 <;> simp [hc, Addr.add]
  | some y =>
    obtain ⟨k', hy⟩ := hlo
    cases hi with
    | none =>
      simp only at hhi; subst hhi
      simp [execOp, ho, hx N D a hk, hy N D a hk, Instr.sliceAt, Instr.slice, run_underlying ht, Instr.sliceBounds, Instr.sliceBound, asIntOf, hs w, hl0, h1]
      by_cases hc : cap = l
      · simp [hc]
      · simp [hc, Addr.add_lit]
    | some z =>
      obtain ⟨k'', hz⟩ := hhi
      simp [execOp, ho, hx N D a hk, hy N D a hk, hz N D a hk, Instr.sliceAt, Instr.slice, run_underlying ht, Instr.sliceBounds, Instr.sliceBound, asIntOf, hs w, hl0, hh0, h1, h2]
      by_cases hc : cap = l
      · simp [hc]
      · simp [hc, Addr.add_lit]

/-- a struct's or an array's value -/
theorem Q.build {parts : List (Nat × Operand)} {ps : List (Nat × Value)} {cells : List Value} (hp : Evs L (parts.map (·.2)) (ps.map (·.2))) (hi : parts.map (·.1) = ps.map (·.1)) (hb : P.built t ps = some cells.toArray) :
    Qt P A (.build t parts.toArray) ty L (.agg cells.toArray) := by
  intro N D a w o ho _ hf _
  have h1 : (parts.map fun (p : Nat × Operand) => (p.1, a.eval p.2)) = ps := by
    have h2 := hp N D a hf
    clear hb ho hp
    induction parts generalizing ps with
    | nil => cases ps with
      | nil => rfl
      | cons _ _ => simp at hi
    | cons p parts ih =>
      cases ps with
      | nil => simp at hi
      | cons q ps =>
        simp only [List.map_cons, List.cons.injEq] at h2 hi ⊢
        exact ⟨by rw [h2.1, hi.1], ih hi.2 h2.2⟩
  have h3 := run_build (P := P) w t ps.toArray cells.toArray (by simpa using hb)
  simp only [execOp, ho]
  have h4 : (parts.toArray.map fun x => match x with | (i, x) => (i, a.eval x)) = ps.toArray := by
    rw [← h1]; simp
  rw [h4]
  simp [h3]
end

/-! calls -/
section calls
variable {r : Option Nat} {P : Program} {N : Nat} {ops : Array Oper} {Q : Exit → Act → World → Prop} {rest : List Oper} {D : List Deferred} {L : List (Nat × Value)} {A : World → Prop} {o : Oper}

/-- what a call leaves behind -/
abbrev Out {X : Type} (V : X → Value) (B : X → World → Prop) : Ending → World → Prop := fun e w' => ∃ x, e = .returned (V x) ∧ B x w'

theorem callsWf {r : Option Nat} {P : Program} {f : FuncId} {args : Array Value} {w : World} {R : Ending → World → Prop} (h : Calls P f args w R) : CallsIn (Wf r) 0 P f args w R :=
  show CallsIn ({ Fence.wide with round := r }) 0 P f args w R from (callsIn_wide (n := 0)).2 h

theorem callsOf {P : Program} {f : FuncId} {args : Array Value} {w : World} {R : Ending → World → Prop} (h : CallsIn (Wf none) 0 P f args w R) : Calls P f args w R := (callsIn_wide (n := 0)).1 h

theorem run_enter {P : Program} {f : FuncId} {fn : Func} (hf : P.funcs[f]? = some fn) (hn : (fn.name == "runtime.NumGoroutine") = false) (hb : fn.body.isNone = false) (args : Array Value) (w : World) :
    (callFunc f args).run P w = .ok (.enter f args) w := by
  simp only [callFunc, Sem.run_bind, run_program, Result.andThen_ok, hf, hn, hb, Bool.false_eq_true, if_false, Sem.run_pure]

/-- a function that can be called: its entry -/
def En (P : Program) (f : FuncId) : Prop := ∀ args w, (callFunc f args).run P w = .ok (.enter f args) w

theorem J.callGen {f : FuncId} {args : List Value} {d : Nat} {X : Type} {V : X → Value} {B : X → World → Prop} (hg : o.guard = none) (hd : o.dst = some d) (hn : okd d N L = true) (hnd : notDefer o.op = true)
    (hrun : ∀ a w, FOK N D L a → (execOp a.eval o).run P w = .ok (.enter f args.toArray) w)
    (hc : ∀ w, A w → Calls P f args.toArray w (Out V B))
    (k : ∀ x, J r P N ops Q rest D ((d, V x) :: L) (B x)) : J r P N ops Q (o :: rest) D L A := by
  intro a w hf hA
  refine wp_plain hg ⟨fun _ _ => trivial, ?_⟩
  rw [semAt_of hnd, hrun a w hf]
  refine ⟨fun h => by simp [Fence.wide] at h, callsWf ((hc w hA).mono ?_)⟩
  rintro e w' ⟨x, rfl, hB⟩
  show wpListIn _ _ _ _ _ _ (a.put o.dst (V x)) w'
  rw [hd]
  exact k x _ _ (hf.put hn) hB

theorem J.callGen0 {f : FuncId} {args : List Value} {X : Type} {V : X → Value} {B : X → World → Prop} (hg : o.guard = none) (hd : o.dst = none) (hnd : notDefer o.op = true)
    (hrun : ∀ a w, FOK N D L a → (execOp a.eval o).run P w = .ok (.enter f args.toArray) w)
    (hc : ∀ w, A w → Calls P f args.toArray w (Out V B))
    (k : ∀ x, J r P N ops Q rest D L (B x)) : J r P N ops Q (o :: rest) D L A := by
  intro a w hf hA
  refine wp_plain hg ⟨fun _ _ => trivial, ?_⟩
  rw [semAt_of hnd, hrun a w hf]
  refine ⟨fun h => by simp [Fence.wide] at h, callsWf ((hc w hA).mono ?_)⟩
  rintro e w' ⟨x, rfl, hB⟩
  show wpListIn _ _ _ _ _ _ (a.put o.dst (V x)) w'
  rw [hd]
  exact k x _ _ hf hB

theorem run_static {f : FuncId} {xs : List Operand} {vs : List Value} {ats : Array TypeId} {c : Operand} (he : En P f) (hc : Ev L c (.func (.func f) #[] #[])) (hx : Evs L xs vs) (ho : o.op = .call { callee := .value c, args := xs.toArray, argTypes := ats }) :
    ∀ a w, FOK N D L a → (execOp a.eval o).run P w = .ok (.enter f vs.toArray) w := by
  intro a w hf
  have h1 := hx N D a hf
  simp [execOp, ho, resolve, hc N D a hf, Deferred.ofValue, invoke, h1]
  exact he _ _
theorem run_closure {f : FuncId} {xs : List Operand} {vs first captured : List Value} {ats : Array TypeId} {c : Operand} (he : En P f) (hc : Ev L c (.func (.func f) first.toArray captured.toArray)) (hx : Evs L xs vs) (ho : o.op = .call { callee := .value c, args := xs.toArray, argTypes := ats }) :
    ∀ a w, FOK N D L a → (execOp a.eval o).run P w = .ok (.enter f (first ++ vs ++ captured).toArray) w := by
  intro a w hf
  have h1 := hx N D a hf
  simp [execOp, ho, resolve, hc N D a hf, Deferred.ofValue, invoke, h1]
  exact he _ _
end calls

/-! a function's body -/
section body
variable {P : Program} {N : Nat} {D : List Deferred} {L : List (Nat × Value)} {A : World → Prop} {fn : Func} {R : Ending → World → Prop}

def args0 : Nat → List Value → List (Nat × Value)
  | _, [] => []
  | n, v :: vs => (n, v) :: args0 (n + 1) vs

theorem args0_mem {vs : List Value} : ∀ {n : Nat} {p : Nat × Value}, p ∈ args0 n vs → ∃ i, p.1 = n + i ∧ vs[i]? = some p.2 := by
  induction vs with
  | nil => intro n p h; simp [args0] at h
  | cons v vs ih =>
    intro n p h
    rcases List.mem_cons.1 h with rfl | h
    · exact ⟨0, rfl, rfl⟩
    · obtain ⟨i, h1, h2⟩ := ih h
      exact ⟨i + 1, by omega, by simpa using h2⟩

theorem Calls.enter {f : FuncId} {c : Code} {args : List Value} {w : World} (hf : P.funcs[f]? = some fn) (hb : fn.body = some c) (hN : fn.ntmps = N) (hle : Nat.ble args.length N = true)
    (h : C none P N c (bodyPost P fn R) [] (args0 0 args) (fun w' => w' = w)) : Calls P f args.toArray w R := by
  refine callsOf (callsIn_of_wp hf hb trivial ?_ rfl)
  have hle' : args.length ≤ N := by simpa using hle
  refine h _ _ ⟨?_, rfl, ?_⟩ rfl
  · simp [hN]; omega
  · intro p hp
    obtain ⟨i, h1, h2⟩ := args0_mem hp
    have hi : i < args.length := (List.getElem?_eq_some_iff.1 h2).1
    have h1' : p.1 = i := by omega
    rw [h1']
    simp only [Array.getD_eq_getD_getElem?]
    rw [Array.getElem?_append_left (by simpa using hi)]
    simp [h2]

theorem X.ret0 (hr : fn.results = #[]) (h : ∀ w, A w → R (.returned (.tuple #[])) w) : X N .ret (bodyPost P fn R) [] L A := fun _ w hf hA => bodyPost_ret (results_none hr _ _ _) hf.defs (h w hA)
theorem X.end0 (hr : fn.results = #[]) (h : ∀ w, A w → R (.returned (.tuple #[])) w) : X N .normal (bodyPost P fn R) [] L A := fun _ w hf hA => bodyPost_end (results_none hr _ _ _) hf.defs (h w hA)
theorem X.ret1 {t : Nat} {v : Value} (hr : fn.results = #[.tmp t]) (i : Nat) (hi : nth L i = some (t, v)) (h : ∀ w, A w → R (.returned v) w) : X N .ret (bodyPost P fn R) [] L A := fun a w hf hA =>
  bodyPost_ret (results_tmp hr _ _ _) hf.defs (by rw [hf.at_ _ (nth_mem hi)]; exact h w hA)
theorem X.ret2 {s t : Nat} {u v : Value} (hr : fn.results = #[.tmp s, .tmp t]) (i j : Nat) (hi : nth L i = some (s, u)) (hj : nth L j = some (t, v)) (h : ∀ w, A w → R (.returned (.tuple [u, v].toArray)) w) : X N .ret (bodyPost P fn R) [] L A := fun a w hf hA =>
  bodyPost_ret (v := .tuple [u, v].toArray) (by have h1 : a.tmps.getD s undef = u := hf.at_ _ (nth_mem hi); have h2 : a.tmps.getD t undef = v := hf.at_ _ (nth_mem hj); rw [← h1, ← h2]; exact results_tmp2 hr _ _ _) hf.defs (h w hA)
theorem X.ret3 {s t p : Nat} {u v x : Value} (hr : fn.results = #[.tmp s, .tmp t, .tmp p]) (i j k : Nat) (hi : nth L i = some (s, u)) (hj : nth L j = some (t, v)) (hk : nth L k = some (p, x)) (h : ∀ w, A w → R (.returned (.tuple [u, v, x].toArray)) w) : X N .ret (bodyPost P fn R) [] L A := fun a w hf hA =>
  bodyPost_ret (v := .tuple [u, v, x].toArray) (by have h1 : a.tmps.getD s undef = u := hf.at_ _ (nth_mem hi); have h2 : a.tmps.getD t undef = v := hf.at_ _ (nth_mem hj); have h3 : a.tmps.getD p undef = x := hf.at_ _ (nth_mem hk); rw [← h1, ← h2, ← h3]; simp [results, hr]) hf.defs (h w hA)
end body
end Go.J
namespace Go.J
open Go Go.RowKit

def ons (o : Oper) : List Nat := (o.after.toList.filter (Region.binds .any)).map (·.on)
def maskOf (ms : List Nat) (es : List Nat) : Nat := es.foldr (fun e s => (2 ^ e ||| ms.getD e 0) ||| s) 0

theorem maskOf_bit {ms : List Nat} {j : Nat} : ∀ {es : List Nat}, (maskOf ms es).testBit j = true → ∃ e ∈ es, j = e ∨ (ms.getD e 0).testBit j = true
  | [], h => by simp [maskOf] at h
  | e :: es, h => by
    simp only [maskOf, List.foldr_cons, Nat.testBit_or, Bool.or_eq_true] at h
    rcases h with (h | h) | h
    · refine ⟨e, by simp, .inl ?_⟩
      rw [Nat.testBit_two_pow] at h
      exact (of_decide_eq_true h).symm
    · exact ⟨e, by simp, .inr h⟩
    · obtain ⟨e', he, h'⟩ := maskOf_bit (es := es) h
      exact ⟨e', List.mem_cons_of_mem _ he, h'⟩

def isSelect : Op → Bool
  | .select _ _ => true
  | _ => false

def drawAt (l : List Oper) (ms : List Nat) (n : Nat) (k : Nat) (o : Oper) : Bool :=
  (ons o).all (fun e => Nat.blt e k) && Nat.beq (ms.getD k 0) (maskOf ms (ons o)) && !isSelect o.op && notDefer o.op &&
  (o.looksAt l.toArray).all (fun t => (List.range l.length).all fun j => !(((l[j]?).bind (·.dst)) == some t) || (ms.getD k 0).testBit j) &&
  (Nat.blt k n || (if Nat.beq k n then (List.range n).all fun j => (ms.getD k 0).testBit j else (ms.getD k 0).testBit (k - 1)))
def drawB (l : List Oper) (ms : List Nat) (n : Nat) : Bool := Nat.ble n l.length && (List.range l.length).all fun k => match l[k]? with | some o => drawAt l ms n k o | none => true

structure DrawAt (l : List Oper) (ms : List Nat) (n : Nat) (k : Nat) (o : Oper) : Prop where
  back : ∀ e ∈ ons o, e < k
  mask : ms.getD k 0 = maskOf ms (ons o)
  sel : ∀ cs b, o.op ≠ .select cs b
  nd : notDefer o.op = true
  looks : ∀ t ∈ o.looksAt l.toArray, ∀ j o', l[j]? = some o' → o'.dst = some t → (ms.getD k 0).testBit j = true
  head : k = n → ∀ j, j < n → (ms.getD k 0).testBit j = true
  tail : n < k → (ms.getD k 0).testBit (k - 1) = true

theorem drawB_at {l : List Oper} {ms : List Nat} {n : Nat} (h : drawB l ms n = true) {k : Nat} {o : Oper} (ho : l[k]? = some o) : DrawAt l ms n k o := by
  simp only [drawB, Bool.and_eq_true, List.all_eq_true, List.mem_range] at h
  have hk := h.2 k (List.getElem?_eq_some_iff.1 ho).1
  simp only [ho, drawAt, Bool.and_eq_true, List.all_eq_true, List.mem_range, Nat.blt_eq, Bool.not_eq_true', Bool.or_eq_true] at hk
  obtain ⟨⟨⟨⟨⟨h1, h2⟩, h3⟩, h4⟩, h5⟩, h6⟩ := hk
  refine ⟨h1, Nat.eq_of_beq_eq_true h2, ?_, h4, ?_, ?_, ?_⟩
  · intro cs b e; rw [e] at h3; simp [isSelect] at h3
  · intro t ht j o' hj hd
    rcases h5 t ht j (List.getElem?_eq_some_iff.1 hj).1 with h7 | h7
    · simp [hj, hd] at h7
    · exact h7
  · rintro rfl j hj
    rcases h6 with h6 | h6
    · omega
    · simp only [Nat.beq_refl, if_true, List.all_eq_true, List.mem_range] at h6; exact h6 j hj
  · intro hlt
    rcases h6 with h6 | h6
    · omega
    · have : Nat.beq k n = false := by cases hb : Nat.beq k n with | false => rfl | true => exact absurd (Nat.eq_of_beq_eq_true hb) (by omega)
      simp only [this, Bool.false_eq_true, if_false] at h6; exact h6

theorem drawB_le {l : List Oper} {ms : List Nat} {n : Nat} (h : drawB l ms n = true) : n ≤ l.length := by
  simp only [drawB, Bool.and_eq_true] at h; exact Nat.le_of_ble_eq_true h.1

section
variable {r : Option Nat} {P : Program} {N : Nat} {l : List Oper} {ms : List Nat} {n : Nat} {Q : Exit → Act → World → Prop} {D : List Deferred} {L : List (Nat × Value)} {A : World → Prop}

def Lst (b : Array Bool) (j : Nat) : Prop := b.getD j false = true
def Closed (l : List Oper) (b : Array Bool) : Prop := ∀ j o, l[j]? = some o → Lst b j → ∀ e ∈ ons o, Lst b e

theorem mem_ons {o : Oper} {e : Nat} : e ∈ ons o ↔ ∃ g ∈ o.after, Region.binds .any g = true ∧ g.on = e := by
  simp [ons]
  constructor
  · rintro ⟨g, ⟨h1, h2⟩, h3⟩; exact ⟨g, h1, h2, h3⟩
  · rintro ⟨g, h1, h2, h3⟩; exact ⟨g, ⟨h1, h2⟩, h3⟩

theorem fresh_of {d : Nat} {L : List (Nat × Value)} (h : ∀ p ∈ L, p.1 ≠ d) : fresh d L = true := by
  induction L with
  | nil => rfl
  | cons p L ih =>
    obtain ⟨t, u⟩ := p
    have hne : t ≠ d := h _ (List.mem_cons_self ..)
    have : Nat.beq t d = false := by cases hbb : Nat.beq t d with | false => rfl | true => exact absurd (Nat.eq_of_beq_eq_true hbb) hne
    simp only [fresh, this, cond_false]
    exact ih (fun p hp => h p (List.mem_cons_of_mem _ hp))

/-- what an operation waits for has come -/
theorem anc_listed (hB : drawB l ms n = true) {b : Array Bool} (hc : Closed l b) : ∀ (k : Nat) {o : Oper}, l[k]? = some o → (∀ e ∈ ons o, Lst b e) → ∀ j, (ms.getD k 0).testBit j = true → Lst b j := by
  intro k
  induction k using Nat.strongRecOn with
  | _ k ih =>
    intro o ho hr j hj
    have hd := drawB_at hB ho
    rw [hd.mask] at hj
    obtain ⟨e, he, h | h⟩ := maskOf_bit hj
    · subst h; exact hr _ he
    · have hek := hd.back e he
      have hlt : e < l.length := Nat.lt_trans hek (List.getElem?_eq_some_iff.1 ho).1
      exact ih e hek (List.getElem?_eq_getElem hlt) (hc e _ (List.getElem?_eq_getElem hlt) (hr e he)) j h

inductive DH (P : Program) (N : Nat) (l : List Oper) (A : World → Prop) (L : List (Nat × Value)) : Nat → List (Nat × Value) → Prop
  | nil : DH P N l A L 0 L
  | cons {k d : Nat} {Lk : List (Nat × Value)} {o : Oper} {v : Value} (h : DH P N l A L k Lk) (ho : l[k]? = some o) (hd : o.dst = some d) (hn : okd d N Lk = true)
      (hy : ∀ D a, FOK N D Lk a → YieldsIn P l.toArray A o v a) : DH P N l A L (k + 1) ((d, v) :: Lk)

theorem DH.base {k : Nat} {Lk : List (Nat × Value)} (h : DH P N l A L k Lk) : ∀ p ∈ L, p ∈ Lk := by
  induction h with
  | nil => exact fun p h => h
  | cons _ _ _ _ _ ih => exact fun p h => List.mem_cons_of_mem _ (ih p h)
theorem DH.key {k : Nat} {Lk : List (Nat × Value)} (h : DH P N l A L k Lk) : ∀ p ∈ Lk, p ∈ L ∨ ∃ j o, j < k ∧ l[j]? = some o ∧ o.dst = some p.1 := by
  induction h with
  | nil => exact fun p h => .inl h
  | cons _ ho hd _ _ ih =>
    intro p hp
    rcases List.mem_cons.1 hp with rfl | hp
    · exact .inr ⟨_, _, Nat.lt_succ_self _, ho, hd⟩
    · rcases ih p hp with h1 | ⟨j, o, hj, h1, h2⟩
      · exact .inl h1
      · exact .inr ⟨j, o, Nat.lt_succ_of_lt hj, h1, h2⟩
theorem DH.step {k : Nat} {Lk : List (Nat × Value)} (h : DH P N l A L k Lk) : ∀ i, i < k → ∃ o d v Li, l[i]? = some o ∧ o.dst = some d ∧ okd d N Li = true ∧ DH P N l A L i Li ∧ (∀ D a, FOK N D Li a → YieldsIn P l.toArray A o v a) ∧
    (∀ p ∈ Li, p ∈ Lk) ∧ (∀ p ∈ Lk, p.1 = d → p = (d, v)) := by
  induction h with
  | nil => intro i hi; omega
  | @cons k d Lk o v h ho hd hn hy ih =>
    intro i hi
    have hf := fresh_ne (okd_fresh hn)
    by_cases hik : i = k
    · subst hik
      refine ⟨o, d, v, Lk, ho, hd, hn, h, hy, fun p hp => List.mem_cons_of_mem _ hp, fun p hp he => ?_⟩
      rcases List.mem_cons.1 hp with rfl | hp
      · rfl
      · exact absurd he (hf p hp)
    · obtain ⟨o', d', v', Li, h1, h2, h3, h4, h5, h6, h7⟩ := ih i (by omega)
      refine ⟨o', d', v', Li, h1, h2, h3, h4, h5, fun p hp => List.mem_cons_of_mem _ (h6 p hp), fun p hp he => ?_⟩
      rcases List.mem_cons.1 hp with rfl | hp
      · -- the key d is d': then d' would be fresh in Lk
        have hmem : ∃ q ∈ Lk, q.1 = d' := by
          have : ∀ {k' : Nat} {Lk' : List (Nat × Value)}, DH P N l A L k' Lk' → ∀ i o d, i < k' → l[i]? = some o → o.dst = some d → ∃ q ∈ Lk', q.1 = d := by
            intro k' Lk' hh
            induction hh with
            | nil => intro i o d hi; omega
            | @cons k2 d2 Lk2 o2 v2 _ ho2 hd2 _ _ ih2 =>
              intro i o d hi hl hdd
              by_cases hik : i = k2
              · subst hik
                have : o = o2 := Option.some.inj (hl.symm.trans ho2)
                subst this
                exact ⟨_, List.mem_cons_self .., Option.some.inj (hd2.symm.trans hdd)⟩
              · obtain ⟨q, hq, hqe⟩ := ih2 i o d (by omega) hl hdd
                exact ⟨q, List.mem_cons_of_mem _ hq, hqe⟩
          exact this h i o' d' (by omega) h1 h2
        obtain ⟨q, hq, hqe⟩ := hmem
        exact absurd (hqe.trans he.symm) (hf q hq)
      · exact h7 p hp he
/-- a frame in which all of the head's values stand -/
theorem DH.full {k : Nat} {Lk : List (Nat × Value)} (h : DH P N l A L k Lk) {a : Act} (hf : FOK N D L a) :
    ∃ a', FOK N D Lk a' ∧ ∀ t, (∀ j o, j < k → l[j]? = some o → o.dst ≠ some t) → a'.tmps[t]? = a.tmps[t]? := by
  induction h with
  | nil => exact ⟨a, hf, fun _ _ => rfl⟩
  | @cons k d Lk o v _ ho hd hn _ ih =>
    obtain ⟨a', h1, h2⟩ := ih
    refine ⟨a'.put (some d) v, h1.put hn, fun t ht => ?_⟩
    have hne : d ≠ t := fun e => ht k o (Nat.lt_succ_self _) ho (by rw [hd, e])
    simp only [Act.put]
    rw [Array.getElem?_setIfInBounds_ne hne]
    exact h2 t (fun j o' hj => ht j o' (Nat.lt_succ_of_lt hj))

theorem look_same {ops : Array Oper} {o : Oper} {a a' : Act} (hs : ∀ cs b, o.op ≠ .select cs b) (h : ∀ t ∈ o.looksAt ops, a'.tmps[t]? = a.tmps[t]?) :
    execOp a'.eval o = execOp a.eval o ∧ Region.wanted o (yielded ops a'.tmps) = Region.wanted o (yielded ops a.tmps) := by
  constructor
  · refine execOp_congr o hs fun x hx => ?_
    cases x with
    | tmp t =>
      have := h t (List.mem_append_left _ (List.mem_filterMap.2 ⟨.tmp t, by simpa using hx, rfl⟩))
      simp [Act.eval, this]
    | _ => rfl
  · unfold Region.wanted
    cases hg : o.guard with
    | none => rfl
    | some gw =>
      obtain ⟨g, want⟩ := gw
      have hy : yielded ops a'.tmps g = yielded ops a.tmps g := by
        unfold yielded
        cases ht : (ops[g]?).bind (·.dst) with
        | none => rfl
        | some t =>
          have := h t (by simp [Oper.looksAt, hg, ht])
          simp [this]
      simp only [hy]

theorem wpOpIn_of_yields {i : Nat} {o : Oper} {v : Value} {a : Act} {w : World} {K : Act → World → Prop} (hi : l[i]? = some o) (hnd : notDefer o.op = true) (hA : A w) (hy : YieldsIn P l.toArray A o v a)
    (h : ∀ w', A w' → K (a.put o.dst v) w') : wpOpIn (Wf r) 0 P l.toArray Q i K a w := by
  have hi' : l.toArray[i]? = some o := by simpa using hi
  unfold wpOpIn
  simp only [hi']
  rcases hy with ⟨hw, hq⟩ | ⟨hw, rfl⟩
  · simp only [hw, if_true]
    refine ⟨fun _ _ => trivial, ?_⟩
    have h1 := hq w hA
    rw [semAt_of hnd]
    unfold Oper.quietAt at h1
    generalize (execOp a.eval o).run P w = res at *
    cases res with
    | ok x w' =>
      cases x <;> simp only [Oper.quietUpon] at h1
      case value u => obtain ⟨rfl, rfl⟩ := h1; exact h _ hA
      case skip => obtain ⟨rfl, rfl⟩ := h1; exact h _ hA
      case enter f args =>
        obtain ⟨rfl, hc⟩ := h1
        refine ⟨fun h => by simp [Fence.wide] at h, callsWf (hc.mono ?_)⟩
        rintro e w'' ⟨rfl, hA'⟩
        exact h _ hA'
    | halt x w' => simp [Oper.quietUpon] at h1
  · simp only [hw, Bool.false_eq_true, if_false]
    exact ⟨fun _ _ => trivial, h w hA⟩

/-- the head's values that have come stand in the frame -/
structure HI (N : Nat) (D : List Deferred) (L Lk : List (Nat × Value)) (l : List Oper) (n : Nat) (b : Array Bool) (a : Act) : Prop where
  fok : FOK N D L a
  got : ∀ p ∈ Lk, ∀ j o, j < n → Lst b j → l[j]? = some o → o.dst = some p.1 → a.tmps.getD p.1 undef = p.2

theorem count_set {b : Array Bool} {i : Nat} (hi : b.getD i true = false) : (b.setIfInBounds i true).toList.count false + 1 = b.toList.count false := by
  have hlt : i < b.size := by
    rcases Nat.lt_or_ge i b.size with h | h
    · exact h
    · simp [Array.getElem?_eq_none h] at hi
  have hv : b.toList[i]'(by simpa using hlt) = false := by simpa [hlt] using hi
  have hpos : 0 < b.toList.count false := List.count_pos_iff.2 (by rw [← hv]; exact List.getElem_mem _)
  rw [Array.toList_setIfInBounds, List.count_set (by simpa using hlt), hv]
  rw [if_pos (by rfl), if_neg (by decide)]
  omega

theorem getD_bool {b : Array Bool} {i : Nat} (h : i < b.size) : b.getD i true = b.getD i false := by simp [h]

theorem draw_any (hB : drawB l ms n = true) {Lk : List (Nat × Value)} (H : DH P N l A L n Lk) (T : J r P N l.toArray Q (l.drop n) D Lk A) :
    ∀ (fuel : Nat) (b : Array Bool) (a : Act) (w : World), b.size = l.length → b.toList.count false = fuel → Closed l b →
      ((HI N D L Lk l n b a ∧ A w ∧ (∀ j, n ≤ j → ¬ Lst b j)) ∨ (∃ m, n ≤ m ∧ m ≤ l.length ∧ (∀ j, Lst b j ↔ j < m) ∧ wpListIn (Wf r) 0 P l.toArray Q (l.drop m) a w)) →
      wpAnyIn (Wf r) 0 P .any l.toArray Q fuel b a w := by
  have hle := drawB_le hB
  -- all of the head has come
  have whole : ∀ (b : Array Bool) (a : Act) (w : World), HI N D L Lk l n b a → A w → (∀ j, j < n → Lst b j) → wpListIn (Wf r) 0 P l.toArray Q (l.drop n) a w := by
    intro b a w hI hA hall
    refine T a w ⟨hI.fok.size, hI.fok.defs, fun p hp => ?_⟩ hA
    rcases H.key p hp with h1 | ⟨j, o, hj, h1, h2⟩
    · exact hI.fok.at_ p h1
    · exact hI.got p hp j o hj (hall j hj) h1 h2
  -- the first that has not come is ready
  have ready_min : ∀ (b : Array Bool) (i : Nat), b.size = l.length → i < l.length → ¬ Lst b i → (∀ j, j < i → Lst b j) → i ∈ Region.ready .any l.toArray b := by
    intro b i hs hi hn hlt
    rw [mem_ready]
    have hf : b.getD i false = false := by simpa [Lst] using hn
    refine ⟨by rw [getD_bool (by omega)]; exact hf, l[i], by simp [hi], fun e he hb => ?_⟩
    have hon : e.on ∈ ons l[i] := mem_ons.2 ⟨e, he, hb, rfl⟩
    exact hlt _ ((drawB_at hB (List.getElem?_eq_getElem hi)).back _ hon)
  intro fuel
  induction fuel with
  | zero =>
    intro b a w hs hc0 hcl hI
    have hall : ∀ j, j < l.length → Lst b j := by
      intro j hj
      have h1 : false ∉ b.toList := List.count_eq_zero.1 hc0
      have hj' : j < b.size := by omega
      unfold Lst
      cases hv : b.getD j false with
      | true => rfl
      | false =>
        exfalso; apply h1
        have : b[j] = false := by simpa [hj'] using hv
        rw [← this]; simp
    constructor
    · apply List.eq_nil_iff_forall_not_mem.2
      intro j hj
      obtain ⟨h0, o, ho, _⟩ := mem_ready.1 hj
      have hj' : j < l.length := by simpa using (Array.getElem?_eq_some_iff.1 ho).1
      have := hall j hj'
      unfold Lst at this
      rw [getD_bool (by omega), this] at h0; cases h0
    · rcases hI with ⟨h1, h2, h3⟩ | ⟨m, h1, h2, h3, h4⟩
      · have hnl : n = l.length := by
          rcases Nat.lt_or_ge n l.length with h | h
          · exact absurd (hall n h) (h3 n (Nat.le_refl _))
          · omega
        have := whole b a w h1 h2 (fun j hj => hall j (by omega))
        rw [hnl, List.drop_length] at this
        exact this
      · have hml : m = l.length := by
          rcases Nat.lt_or_ge m l.length with h | h
          · exact absurd ((h3 m).1 (hall m h)) (by omega)
          · omega
        rw [hml, List.drop_length] at h4
        exact h4
  | succ fuel ih =>
    intro b a w hs hc0 hcl hI
    refine ⟨fun hnil => ?_, fun i hi => ?_⟩
    · -- something is ready
      exfalso
      have h1 : false ∈ b.toList := List.count_pos_iff.1 (by omega)
      obtain ⟨k, hk, hkv⟩ := List.getElem_of_mem h1
      have hex : ∃ i, i < l.length ∧ ¬ Lst b i ∧ ∀ j, j < i → Lst b j := by
        have hk' : k < b.size := by simpa using hk
        have hnk : ¬ Lst b k := by
          unfold Lst
          have : b[k] = false := by simpa using hkv
          simp [hk', this]
        have : ∀ m, (∃ i, i < l.length ∧ ¬ Lst b i ∧ ∀ j, j < i → Lst b j) ∨ ∀ j, j < m → Lst b j := by
          intro m
          induction m with
          | zero => exact .inr (fun j hj => by omega)
          | succ m ihm =>
            rcases ihm with h | h
            · exact .inl h
            · by_cases hm : Lst b m
              · refine .inr (fun j hj => ?_)
                rcases Nat.lt_or_ge j m with h' | h'
                · exact h j h'
                · have : j = m := by omega
                  subst this; exact hm
              · by_cases hml : m < l.length
                · exact .inl ⟨m, hml, hm, h⟩
                · exact absurd (h k (by omega)) hnk
        rcases this (k + 1) with h | h
        · exact h
        · exact absurd (h k (by omega)) hnk
      obtain ⟨i, hi, hni, hlt⟩ := hex
      have := ready_min b i hs hi hni hlt
      rw [hnil] at this; cases this
    · obtain ⟨h0, o, ho, haft⟩ := mem_ready.1 hi
      have ho' : l[i]? = some o := by simpa using ho
      have hil : i < l.length := (List.getElem?_eq_some_iff.1 ho').1
      have hd := drawB_at hB ho'
      have hons : ∀ e ∈ ons o, Lst b e := fun e he => by
        obtain ⟨g, hg, hb, rfl⟩ := mem_ons.1 he; exact haft g hg hb
      have hanc := anc_listed hB hcl i ho' hons
      have hni : ¬ Lst b i := by
        unfold Lst; rw [← getD_bool (by omega), h0]; simp
      have hs' : (b.setIfInBounds i true).size = l.length := by simpa using hs
      have hc' : (b.setIfInBounds i true).toList.count false = fuel := by have := count_set h0; omega
      have hset : ∀ j, Lst (b.setIfInBounds i true) j ↔ Lst b j ∨ j = i := by
        intro j
        unfold Lst
        by_cases hij : i = j
        · subst hij
          have : i < b.size := by omega
          simp [this]
        · rw [getD_set_ne false hij]
          constructor
          · exact .inl
          · rintro (h | h)
            · exact h
            · exact absurd h.symm hij
      have hcl' : Closed l (b.setIfInBounds i true) := by
        intro j o' hj hl e he
        rw [hset] at hl ⊢
        rcases hl with hl | rfl
        · exact .inl (hcl j o' hj hl e he)
        · have : o' = o := Option.some.inj (hj.symm.trans ho')
          subst this
          exact .inl (hons e he)
      -- one operation behind the head
      have tailStep : ∀ m, n ≤ m → (∀ j, Lst b j ↔ j < m) → i = m → wpListIn (Wf r) 0 P l.toArray Q (l.drop m) a w →
          wpOpIn (Wf r) 0 P l.toArray Q i (wpAnyIn (Wf r) 0 P .any l.toArray Q fuel (b.setIfInBounds i true)) a w := by
        intro m hnm hb him hwp
        subst him
        have hcons : l.drop i = o :: l.drop (i + 1) := by
          rw [List.drop_eq_getElem_cons hil]
          rw [List.getElem?_eq_getElem hil] at ho'
          rw [Option.some.inj ho']
        rw [hcons] at hwp
        have : wpOpIn (Wf r) 0 P l.toArray Q i (wpListIn (Wf r) 0 P l.toArray Q (l.drop (i + 1))) a w := by
          unfold wpOpIn
          simp only [ho]
          exact hwp
        refine wpOpIn_mono (fun a' w' h' => ih _ a' w' hs' hc' hcl' (.inr ⟨i + 1, by omega, by omega, fun j => ?_, h'⟩)) this
        rw [hset, hb j]; omega
      rcases hI with ⟨h1, h2, h3⟩ | ⟨m, h1, h2, h3, h4⟩
      · rcases Nat.lt_or_ge i n with hin | hin
        · -- one of the head
          obtain ⟨o₁, d, v, Li, k1, k2, k3, k4, k5, k6, k7⟩ := H.step i hin
          have : o₁ = o := Option.some.inj (k1.symm.trans ho')
          subst this
          have hy : YieldsIn P l.toArray A o₁ v a := by
            obtain ⟨a', f1, f2⟩ := k4.full h1.fok
            have hsame := look_same (ops := l.toArray) (o := o₁) (a := a') (a' := a) hd.sel (fun t ht => by
              by_cases hj : ∃ j o', j < i ∧ l[j]? = some o' ∧ o'.dst = some t
              · obtain ⟨j, o', hji, hj1, hj2⟩ := hj
                have hlj := hanc j (hd.looks t ht j o' hj1 hj2)
                obtain ⟨o2, d2, v2, Lj, m1, m2, m3, m4, m5, m6, m7⟩ := k4.step j hji
                have : o2 = o' := Option.some.inj (m1.symm.trans hj1)
                subst this
                have hdt : d2 = t := Option.some.inj (m2.symm.trans hj2)
                subst hdt
                have hin2 : ∃ q ∈ Li, q.1 = d2 := by
                  obtain ⟨o3, d3, v3, L3, q1, q2, q3, q4, q5, q6, q7⟩ := k4.step j hji
                  rcases Classical.em (∃ q ∈ Li, q.1 = d2) with h | h
                  · exact h
                  · exfalso
                    have : ∀ {k' : Nat} {Lk' : List (Nat × Value)}, DH P N l A L k' Lk' → ∀ i o d, i < k' → l[i]? = some o → o.dst = some d → ∃ q ∈ Lk', q.1 = d := by
                      intro k' Lk' hh
                      induction hh with
                      | nil => intro i o d hi; omega
                      | @cons k2 d2 Lk2 o2 v2 _ ho2 hd2 _ _ ih2 =>
                        intro i o d hi hl hdd
                        by_cases hik : i = k2
                        · subst hik
                          have : o = o2 := Option.some.inj (hl.symm.trans ho2)
                          subst this
                          exact ⟨_, List.mem_cons_self .., Option.some.inj (hd2.symm.trans hdd)⟩
                        · obtain ⟨q, hq, hqe⟩ := ih2 i o d (by omega) hl hdd
                          exact ⟨q, List.mem_cons_of_mem _ hq, hqe⟩
                    exact h (this k4 j o2 d2 hji hj1 hj2)
                obtain ⟨q, hq, hqe⟩ := hin2
                have e1 := f1.at_ q hq
                have e2 := h1.got q (k6 q hq) j o2 (by omega) hlj hj1 (by rw [hqe]; exact hj2)
                rw [hqe] at e1 e2
                have hdN : d2 < N := okd_lt m3
                have s1 : d2 < a.tmps.size := by rw [h1.fok.size]; exact hdN
                have s2 : d2 < a'.tmps.size := by rw [f1.size]; exact hdN
                simp [s1, s2] at e1 e2 ⊢
                rw [e1, e2]
              · have := f2 t (fun j o' hji hj1 hj2 => hj ⟨j, o', hji, hj1, hj2⟩)
                exact this.symm)
            exact (k5 D a' f1).of_same hsame.1 hsame.2
          refine wpOpIn_of_yields ho' hd.nd h2 hy (fun w' hA' => ih _ _ w' hs' hc' hcl' (.inl ⟨⟨?_, ?_⟩, hA', ?_⟩))
          · have hfr : okd d N L = true := by
              have h5 := okd_lt k3
              have h6 := fresh_ne (okd_fresh k3)
              have h7 : fresh d L = true := fresh_of (fun p hp => h6 p (k4.base p hp))
              simp [okd, h7, h5]
            rw [k2]
            have := h1.fok.put (v := v) hfr
            exact ⟨this.size, this.defs, fun p hp => this.at_ p (List.mem_cons_of_mem _ hp)⟩
          · intro p hp j o' hjn hlj hj1 hj2
            rw [k2]
            by_cases hpd : p.1 = d
            · have := k7 p hp hpd
              subst this
              have hsz : d < a.tmps.size := by rw [h1.fok.size]; exact okd_lt k3
              simp [Act.put, hsz]
            · have hji : j ≠ i := by
                rintro rfl
                have : o' = o₁ := Option.some.inj (hj1.symm.trans ho')
                subst this
                exact hpd (Option.some.inj (hj2.symm.trans k2))
              rw [hset] at hlj
              have hlj' : Lst b j := hlj.resolve_right hji
              have := h1.got p hp j o' hjn hlj' hj1 hj2
              simp only [Act.put, Array.getD_eq_getD_getElem?] at this ⊢
              rw [Array.getElem?_setIfInBounds_ne (fun e => hpd e.symm)]
              exact this
          · intro j hj hl
            rw [hset] at hl
            rcases hl with hl | rfl
            · exact h3 j hj hl
            · omega
        · -- the first behind the head
          have hin' : i = n := by
            rcases Nat.lt_or_ge n i with h | h
            · exact absurd (hanc (i - 1) (hd.tail h)) (h3 (i - 1) (by omega))
            · omega
          subst hin'
          have hall : ∀ j, j < i → Lst b j := fun j hj => hanc j (hd.head rfl j hj)
          refine tailStep i (Nat.le_refl _) (fun j => ⟨fun hj => ?_, hall j⟩) rfl (whole b a w h1 h2 hall)
          rcases Nat.lt_or_ge j i with h | h
          · exact h
          · exact absurd hj (h3 j h)
      · have him : i = m := by
          have hmi : m ≤ i := Nat.le_of_not_lt (fun h => hni ((h3 i).2 h))
          rcases Nat.lt_or_ge m i with h | h
          · exact absurd ((h3 (i - 1)).1 (hanc (i - 1) (hd.tail (by omega)))) (by omega)
          · omega
        exact tailStep m h1 h3 him h4

/-- what is left of a region that draws, its first k operations being quiet -/
def JD (r : Option Nat) (P : Program) (N : Nat) (id : Nat) (l : List Oper) (_ms : List Nat) (_n : Nat) (Q : Exit → Act → World → Prop) (D : List Deferred) (L : List (Nat × Value)) (A : World → Prop) (k : Nat) (Lk : List (Nat × Value)) : Prop :=
  DH P N l A L k Lk → C r P N (.region id l.toArray true) Q D L A

theorem C.draw {id : Nat} (ms : List Nat) (n : Nat) (h : JD r P N id l ms n Q D L A 0 L) : C r P N (.region id l.toArray true) Q D L A := h .nil

theorem JD.tail {id : Nat} {Lk : List (Nat × Value)} (hm : P.follows .mixedOrders = true) (hB : drawB l ms n = true) (hA : ∀ w, A w → A { w with drawn := w.drawn + 1 }) (T : J r P N l.toArray Q (l.drop n) D Lk A) :
    JD r P N id l ms n Q D L A n Lk := by
  intro H a w hf hAw
  refine wpIn_region_any hm ?_
  have hrep : ∀ j, ¬ Lst (Array.replicate l.toArray.size false) j := by
    intro j; unfold Lst; simp [Array.getElem?_replicate]; split <;> simp
  refine draw_any hB H T _ _ a _ (by simp) (by simp) (fun j o _ hl => absurd hl (hrep j)) (.inl ⟨⟨hf, fun p _ j _ _ hl => absurd hl (hrep j)⟩, hA w hAw, fun j _ => hrep j⟩)

theorem nth_get {α : Type} {l : List α} {k : Nat} {x : α} (h : nth l k = some x) : l[k]? = some x := by
  induction l generalizing k with
  | nil => simp [nth] at h
  | cons y l ih => cases k with
    | zero => simpa [nth] using h
    | succ k => simpa using ih h

theorem JD.q {id k d : Nat} {Lk : List (Nat × Value)} {o : Oper} {v : Value} (ho : nth l k = some o) (hg : o.guard = none) (hd : o.dst = some d) (hn : okd d N Lk = true) (hq : Qt P A o.op o.type Lk v)
    (h : JD r P N id l ms n Q D L A (k + 1) ((d, v) :: Lk)) : JD r P N id l ms n Q D L A k Lk := by
  intro H
  refine h (.cons H (nth_get ho) hd hn fun D a hf => .inl ⟨by simp [Region.wanted, hg], fun w hA => ?_⟩)
  unfold Oper.quietAt
  rw [hq N D a w o rfl rfl hf hA]
  exact ⟨rfl, rfl⟩

/-- a quiet call in a region that draws -/
theorem JD.call {id k d : Nat} {Lk : List (Nat × Value)} {o : Oper} {v : Value} {f : FuncId} {args : List Value} (ho : nth l k = some o) (hg : o.guard = none) (hd : o.dst = some d) (hn : okd d N Lk = true)
    (hrun : ∀ D a w, FOK N D Lk a → (execOp a.eval o).run P w = .ok (.enter f args.toArray) w) (hc : ∀ w, A w → Calls P f args.toArray w (fun e w' => e = .returned v ∧ A w'))
    (h : JD r P N id l ms n Q D L A (k + 1) ((d, v) :: Lk)) : JD r P N id l ms n Q D L A k Lk := by
  intro H
  refine h (.cons H (nth_get ho) hd hn fun D a hf => .inl ⟨by simp [Region.wanted, hg], fun w hA => ?_⟩)
  unfold Oper.quietAt
  rw [hrun D a w hf]
  exact ⟨rfl, hc w hA⟩

/-- a quiet operation under a guard -/
theorem JD.gq {id k d j dj : Nat} {want b : Bool} {Lk Lg : List (Nat × Value)} {o : Oper} {v : Value} (ho : nth l k = some o) (hg : o.guard = some (j, want)) (hj : (l[j]?).bind (·.dst) = some dj) (hjn : Nat.blt dj N = true) (hb : Ev Lk (.tmp dj) (.bool b))
    (hd : o.dst = some d) (hn : okd d N Lk = true) (hs : SelG (b == want) Lk Lg) (hq : (b == want) = true → Qt P A o.op o.type Lg v)
    (h : JD r P N id l ms n Q D L A (k + 1) ((d, gv (b == want) v) :: Lk)) : JD r P N id l ms n Q D L A k Lk := by
  intro H
  refine h (.cons H (nth_get ho) hd hn fun D a hf => ?_)
  have hlt : dj < N := by simpa using hjn
  have hw := wanted_of (ops := l.toArray) hg (by simpa using hj) (hb N D a hf) (by rw [hf.size]; exact hlt)
  cases hbw : (b == want) with
  | true =>
    refine .inl ⟨by rw [hw, hbw], fun w hA => ?_⟩
    unfold Oper.quietAt
    rw [hq hbw N D a w o rfl rfl (hs.fok hbw hf) hA]
    exact ⟨rfl, by simp [gv]⟩
  | false => exact .inr ⟨by rw [hw, hbw], by simp [gv]⟩

/-- a quiet call under a guard -/
theorem JD.gcall {id k d j dj : Nat} {want b : Bool} {Lk Lg : List (Nat × Value)} {o : Oper} {v : Value} {f : FuncId} {args : List Value} (ho : nth l k = some o) (hg : o.guard = some (j, want)) (hj : (l[j]?).bind (·.dst) = some dj) (hjn : Nat.blt dj N = true) (hb : Ev Lk (.tmp dj) (.bool b))
    (hd : o.dst = some d) (hn : okd d N Lk = true) (hs : SelG (b == want) Lk Lg)
    (hrun : ∀ D a w, FOK N D Lg a → (execOp a.eval o).run P w = .ok (.enter f args.toArray) w) (hc : (b == want) = true → ∀ w, A w → Calls P f args.toArray w (fun e w' => e = .returned v ∧ A w'))
    (h : JD r P N id l ms n Q D L A (k + 1) ((d, gv (b == want) v) :: Lk)) : JD r P N id l ms n Q D L A k Lk := by
  intro H
  refine h (.cons H (nth_get ho) hd hn fun D a hf => ?_)
  have hlt : dj < N := by simpa using hjn
  have hw := wanted_of (ops := l.toArray) hg (by simpa using hj) (hb N D a hf) (by rw [hf.size]; exact hlt)
  cases hbw : (b == want) with
  | true =>
    refine .inl ⟨by rw [hw, hbw], fun w hA => ?_⟩
    unfold Oper.quietAt
    rw [hrun D a w (hs.fok hbw hf)]
    refine ⟨rfl, ?_⟩
    simpa [gv] using hc hbw w hA
  | false => exact .inr ⟨by rw [hw, hbw], by simp [gv]⟩
end

section
variable {r : Option Nat} {P : Program} {N : Nat} {ops : Array Oper} {Q : Exit → Act → World → Prop} {rest : List Oper} {D : List Deferred} {L : List (Nat × Value)} {A : World → Prop} {o : Oper}
/-- a quiet call under a guard that is not decided, in a region that does not draw -/
theorem J.gcall {d j dj : Nat} {want b : Bool} {v : Value} {Lg : List (Nat × Value)} {f : FuncId} {args : List Value} (hg : o.guard = some (j, want)) (hj : (ops[j]?).bind (·.dst) = some dj) (hjn : Nat.blt dj N = true) (hb : Ev L (.tmp dj) (.bool b))
    (hd : o.dst = some d) (hn : okd d N L = true) (hnd : notDefer o.op = true) (hs : SelG (b == want) L Lg)
    (hrun : ∀ D a w, FOK N D Lg a → (execOp a.eval o).run P w = .ok (.enter f args.toArray) w) (hc : (b == want) = true → ∀ w, A w → Calls P f args.toArray w (fun e w' => e = .returned v ∧ A w'))
    (k : J r P N ops Q rest D ((d, gv (b == want) v) :: L) A) : J r P N ops Q (o :: rest) D L A := by
  intro a w hf hA
  have hlt : dj < N := by simpa using hjn
  have hw := wanted_of (ops := ops) hg hj (hb N D a hf) (by rw [hf.size]; exact hlt)
  cases hbw : (b == want) with
  | true =>
    simp only [wpListIn, hw, hbw, if_true]
    refine ⟨fun _ _ => trivial, ?_⟩
    rw [semAt_of hnd, hrun D a w (hs.fok hbw hf)]
    refine ⟨fun h => by simp [Fence.wide] at h, callsWf ((hc hbw w hA).mono ?_)⟩
    rintro e w' ⟨rfl, hA'⟩
    show wpListIn _ _ _ _ _ _ (a.put o.dst v) w'
    rw [hd]
    refine k _ _ ?_ hA'
    have := hf.put (v := v) hn
    simpa [gv, hbw] using this
  | false =>
    simp only [wpListIn, hw, hbw]
    refine ⟨fun _ _ => trivial, ?_⟩
    rw [hd]
    refine k _ _ ?_ hA
    have := hf.put (v := undef) hn
    simpa [gv, hbw] using this
end
end Go.J
namespace Go.J
open Go Go.RowKit

theorem Eff.putObj {w : World} {b : Nat} {o : Obj} : Eff (fun x => x = b) w (w.putObj b o) :=
  ⟨rfl, rfl, rfl, by simp, fun _ _ hx => World.putObj_heap_other hx, Nat.le_refl _⟩

/-! leaving a function that holds such a loop -/
def mk (b : Nat) : Deferred := { target := .collected b, args := #[] }

def XL (P : Program) (N : Nat) (fn : Func) (R : Ending → World → Prop) (D : List Deferred) (L : List (Nat × Value)) (A : World → Prop) : Prop :=
  ∀ a w, (∃ D₀, FOK N D₀ L a) → A w → LeavesInM (Wf none) 0 P fn a.tmps R D .returning w

section leave
variable {P : Program} {N : Nat} {fn : Func} {R : Ending → World → Prop} {D : List Deferred} {L : List (Nat × Value)} {A : World → Prop} {w₀ : World} {F : Nat → Prop} {M M' Φ : List Res}

theorem Calls.enterM {f : FuncId} {c : Code} {args : List Value} {w : World} (hf : P.funcs[f]? = some fn) (hb : fn.body = some c) (hN : fn.ntmps = N) (hle : Nat.ble args.length N = true)
    (h : C none P N c (bodyPostM (Wf none) 0 P fn R) [] (args0 0 args) (fun w' => w' = w)) : Calls P f args.toArray w R := by
  refine callsOf (callsIn_of_wp_marks hf hb trivial ?_ rfl)
  have hle' : args.length ≤ N := by simpa using hle
  refine h _ _ ⟨?_, rfl, ?_⟩ rfl
  · simp [hN]; omega
  · intro p hp
    obtain ⟨i, h1, h2⟩ := args0_mem hp
    have hi : i < args.length := (List.getElem?_eq_some_iff.1 h2).1
    have h1' : p.1 = i := by omega
    rw [h1']
    simp only [Array.getD_eq_getD_getElem?]
    rw [Array.getElem?_append_left (by simpa using hi)]
    simp [h2]

theorem X.leave (h : XL P N fn R D L A) : X N .ret (bodyPostM (Wf none) 0 P fn R) D L A := fun a w hf hA => by
  have := h a w ⟨D, hf⟩ hA
  show LeavesInM _ _ _ _ _ _ a.defers _ _
  rw [hf.defs]; exact this
theorem X.leaveEnd (h : XL P N fn R D L A) : X N .normal (bodyPostM (Wf none) 0 P fn R) D L A := fun a w hf hA => by
  have := h a w ⟨D, hf⟩ hA
  show LeavesInM _ _ _ _ _ _ a.defers _ _
  rw [hf.defs]; exact this

theorem XL.mark {b : Nat} (u : Upd M (own b (.deferred (some []))) M' (own b (.deferred none))) (h : XL P N fn R D L (St w₀ F M' Φ)) : XL P N fn R (mk b :: D) L (St w₀ F M Φ) := by
  intro a w hf hA
  obtain ⟨N', hp, _⟩ := u.perm
  have hb : w.heap[b]? = some (.deferred (some [])) := (hA.own_ _ (hp.mem_iff.2 (List.mem_cons_self ..))).1
  refine ⟨by simp, .inl ⟨b, _, rfl, run_takeDeferred hb, h a _ hf (hA.upd u Eff.putObj ?_ ?_)⟩⟩
  · exact World.putObj_heap_same (Array.getElem?_eq_some_iff.1 hb).1
  · intro x hx; simp only [own] at hx; subst hx; exact ⟨.inl rfl, by simpa using (Array.getElem?_eq_some_iff.1 hb).1⟩
theorem XL.ret0 (hr : fn.results = #[]) (h : ∀ w, A w → R (.returned (.tuple #[])) w) : XL P N fn R [] L A := fun _ w _ hA => ⟨_, results_none hr _ _ _, h w hA⟩
theorem XL.ret1 {t : Nat} {v : Value} (hr : fn.results = #[.tmp t]) (i : Nat) (hi : nth L i = some (t, v)) (h : ∀ w, A w → R (.returned v) w) : XL P N fn R [] L A := fun a w ⟨_, hf⟩ hA =>
  ⟨_, results_tmp hr _ _ _, by rw [hf.at_ _ (nth_mem hi)]; exact h w hA⟩
theorem XL.ret2 {s t : Nat} {u v : Value} (hr : fn.results = #[.tmp s, .tmp t]) (i j : Nat) (hi : nth L i = some (s, u)) (hj : nth L j = some (t, v)) (h : ∀ w, A w → R (.returned (.tuple [u, v].toArray)) w) : XL P N fn R [] L A := fun a w ⟨_, hf⟩ hA =>
  ⟨.tuple [u, v].toArray, by have h1 : a.tmps.getD s undef = u := hf.at_ _ (nth_mem hi); have h2 : a.tmps.getD t undef = v := hf.at_ _ (nth_mem hj); rw [← h1, ← h2]; exact results_tmp2 hr _ _ _, h w hA⟩
theorem XL.ret3 {s t p : Nat} {u v x : Value} (hr : fn.results = #[.tmp s, .tmp t, .tmp p]) (i j k : Nat) (hi : nth L i = some (s, u)) (hj : nth L j = some (t, v)) (hk : nth L k = some (p, x)) (h : ∀ w, A w → R (.returned (.tuple [u, v, x].toArray)) w) : XL P N fn R [] L A := fun a w ⟨_, hf⟩ hA =>
  ⟨.tuple [u, v, x].toArray, by have h1 : a.tmps.getD s undef = u := hf.at_ _ (nth_mem hi); have h2 : a.tmps.getD t undef = v := hf.at_ _ (nth_mem hj); have h3 : a.tmps.getD p undef = x := hf.at_ _ (nth_mem hk); rw [← h1, ← h2, ← h3]; simp [results, hr], h w hA⟩
end leave

/-! the iterator's side -/
abbrev Yl (P : Program) (l : Nat) (args : List Value) (w : World) (R : Ending → World → Prop) : Prop := YieldAt (Wf none) 0 P l args.toArray w R

/-- a round has been gone through: it goes on, or it has said 'no more' -/
def Went (I : Res) {Γ : Type} (I' : Γ → Res) {G : Type} (X : G → Res) (w : World) (e : Ending) (w' : World) : Prop :=
  Eff I.U w w' ∧ ((e = .returned (.bool true) ∧ ∃ g, (I' g).φ w' ∧ ∀ b, (I' g).U b → (I.U b ∨ w.heap.size ≤ b) ∧ b < w'.heap.size) ∨
    (e = .returned (.bool false) ∧ ∃ g, (X g).φ w' ∧ ∀ b, (X g).U b → (I.U b ∨ w.heap.size ≤ b) ∧ b < w'.heap.size))

/-- what a function that is ranged over promises: the values come in their order, until a round says 'no more' -/
def Iter (P : Program) (f : FuncId) (cap : List Value) (xs : List (List Value)) (mine need : Res) : Prop :=
  ∀ (l : Nat) (Γ : Type) (I : Nat → Γ → Res) (g₀ : Γ) (G : Type) (X : G → Res) (w : World),
    (∀ i g w, (I i g).φ w → need.φ w) →
    (∀ i g w v, nth xs i = some v → (I i g).φ w → (∀ b, (I i g).U b → b < w.heap.size) → Yl P l v w (Went (I i g) (I (i + 1)) X w)) →
    (I 0 g₀).φ w → mine.φ w → Apart (I 0 g₀) mine → (∀ b, (I 0 g₀).U b → b < w.heap.size) → (∀ b, mine.U b → b < w.heap.size) →
    Calls P f (.func (.yield l) #[] #[] :: cap).toArray w (fun e w' => (∃ v, e = .returned v) ∧ Eff (fun b => (I 0 g₀).U b ∨ mine.U b) w w' ∧ ((∃ g, (I xs.length g).φ w') ∨ ∃ g, (X g).φ w'))

section yield
variable {r : Option Nat} {P : Program} {N : Nat} {ops : Array Oper} {Q : Exit → Act → World → Prop} {rest : List Oper} {D : List Deferred} {L : List (Nat × Value)} {A : World → Prop} {o : Oper}

theorem run_yieldCall {l : Nat} {xs : List Operand} {vs : List Value} {ats : Array TypeId} {c : Operand} {a : Act} {w : World} (hf : FOK N D L a) (hc : Ev L c (.func (.yield l) #[] #[])) (hx : Evs L xs vs)
    (ho : o.op = .call { callee := .value c, args := xs.toArray, argTypes := ats }) : (execOp a.eval o).run P w = (Instr.yield l vs.toArray).run P w := by
  have h1 := hx N D a hf
  simp [execOp, ho, resolve, hc N D a hf, Deferred.ofValue, invoke, h1]

/-- yield is called: the resource that the rounds turn is the first one that is owned -/
theorem J.yield {d l : Nat} {xs : List Operand} {vs : List Value} {ats : Array TypeId} {c : Operand} {w₀ : World} {F : Nat → Prop} {M Φ : List Res} {I : Res} {Γ : Type} {I' : Γ → Res} {G : Type} {X : G → Res} (hg : o.guard = none) (hd : o.dst = some d) (hn : okd d N L = true)
    (ho : o.op = .call { callee := .value c, args := xs.toArray, argTypes := ats }) (hc : Ev L c (.func (.yield l) #[] #[])) (hx : Evs L xs vs)
    (hY : ∀ w, I.φ w → (∀ b, I.U b → b < w.heap.size) → Yl P l vs w (Went I I' X w))
    (ht : ∀ g, J r P N ops Q rest D ((d, .bool true) :: L) (St w₀ F (I' g :: M) Φ))
    (hf : ∀ g, J r P N ops Q rest D ((d, .bool false) :: L) (St w₀ F (X g :: M) Φ)) : J r P N ops Q (o :: rest) D L (St w₀ F (I :: M) Φ) := by
  intro a w hk hA
  have hI := hA.own_ I (List.mem_cons_self ..)
  obtain ⟨fn, tmps, assign, body, hy, hR⟩ := hY w hI.1 (fun b hb => (hI.2 b hb).1)
  refine wp_plain hg ⟨fun _ _ => trivial, ?_⟩
  rw [semAt_of (by rw [ho]; rfl), run_yieldCall hk hc hx ho, hy]
  refine ⟨fun h => by simp [Fence.wide] at h, ?_⟩
  refine RoundIn.mono (F := Wf r) hR ?_
  rintro e w' ⟨hE, (⟨rfl, g, h1, h2⟩ | ⟨rfl, g, h1, h2⟩)⟩
  · show wpListIn _ _ _ _ _ _ (a.put o.dst _) w'
    rw [hd]
    exact ht g _ _ (hk.put hn) (hA.upd .here hE h1 h2)
  · show wpListIn _ _ _ _ _ _ (a.put o.dst _) w'
    rw [hd]
    exact hf g _ _ (hk.put hn) (hA.upd .here hE h1 h2)
end yield

/-! the caller's side -/
/-- the whole state of a call as one resource -/
def StR (w₀ : World) (F : Nat → Prop) (M Φ : List Res) : Res where
  U := fun b => (b < w₀.heap.size ∧ ¬ F b) ∨ (∃ r ∈ M, r.U b) ∨ ∃ i ∈ Φ, i.U b
  φ := St w₀ F M Φ
  st := by
    intro w w' hos ht ho hs hb h
    have hE : ∀ r : Res, r.φ w → (∀ b, r.U b → w'.heap[b]? = w.heap[b]?) → r.φ w' := fun r h1 h2 => r.st w w' hos ht ho hs h2 h1
    refine ⟨⟨hos.trans h.eff.os, ht.trans h.eff.tape, ho.1.trans h.eff.output, Nat.le_trans h.eff.size hs, fun b hb' hF => (hb b (.inl ⟨hb', hF⟩)).trans (h.eff.block b hb' hF), Nat.le_trans h.eff.drawn ho.2⟩, ?_, h.apart, ?_⟩
    · intro r hr
      obtain ⟨h1, h2⟩ := h.own_ r hr
      exact ⟨hE r h1 (fun b h3 => hb b (.inr (.inl ⟨r, hr, h3⟩))), fun b h3 => ⟨Nat.lt_of_lt_of_le (h2 b h3).1 hs, (h2 b h3).2⟩⟩
    · intro i hi
      obtain ⟨h1, h2, h3⟩ := h.imm i hi
      exact ⟨hE i h1 (fun b h4 => hb b (.inr (.inr ⟨i, hi, h4⟩))), fun b h4 => Nat.lt_of_lt_of_le (h2 b h4) hs, h3⟩

/-- the blocks that are owned -/
def Us (M : List Res) : Nat → Prop := fun b => ∃ r ∈ M, r.U b

/-- a state is a state from itself on -/
theorem St.rebase {w₀ w : World} {F : Nat → Prop} {M Φ : List Res} (h : St w₀ F M Φ w) : St w (Us M) M Φ w :=
  ⟨Eff.refl _ _, fun r hr => let ⟨a, b⟩ := h.own_ r hr; ⟨a, fun x hx => ⟨(b x hx).1, .inl ⟨r, hr, hx⟩⟩⟩, h.apart, h.imm⟩
/-- back to the former beginning -/
theorem St.back {w₀ w w' : World} {F : Nat → Prop} {M M' Φ : List Res} (h : St w₀ F M Φ w) (k : St w (Us M) M' Φ w') : St w₀ F M' Φ w' := by
  have hU : ∀ b, Us M b → F b ∨ w₀.heap.size ≤ b := fun b ⟨r, hr, hb⟩ => ((h.own_ r hr).2 b hb).2
  refine ⟨h.eff.trans' k.eff (fun b hb hu => (hU b hu).resolve_right (by omega)), ?_, k.apart, k.imm⟩
  intro r hr
  obtain ⟨h1, h2⟩ := k.own_ r hr
  refine ⟨h1, fun b hb => ⟨(h2 b hb).1, ?_⟩⟩
  rcases (h2 b hb).2 with h3 | h3
  · exact hU b h3
  · exact .inr (Nat.le_trans h.le h3)

def lrec (fn : FuncId) (tmps : Array Value) (ps : Array Tmp) (assign body : Code) (rD : Nat) (s : LoopState) (pd : Option Code) : Loop :=
  { state := s, pending := pd, fn, tmps, params := ps, assign, body, defers := rD }

def params : List Nat → List Value → List (Nat × Value) → List (Nat × Value)
  | p :: ps, v :: vs, L => params ps vs ((p, v) :: L)
  | _, _, L => L
def okps (N : Nat) : List Nat → List (Nat × Value) → Bool
  | [], _ => true
  | p :: ps, L => bif okd p N L then okps N ps ((p, undef) :: L) else false

theorem okd_vals {d N t : Nat} {u v : Value} {L : List (Nat × Value)} : okd d N ((t, u) :: L) = okd d N ((t, v) :: L) := rfl
theorem fresh_keys {d : Nat} : ∀ {L L' : List (Nat × Value)}, L.map Prod.fst = L'.map Prod.fst → fresh d L = fresh d L'
  | [], [], _ => rfl
  | (t, u) :: L, (t', u') :: L', h => by
    simp only [List.map_cons, List.cons.injEq] at h
    simp only [fresh, h.1, fresh_keys h.2]
  | [], _ :: _, h => by simp at h
  | _ :: _, [], h => by simp at h
theorem okd_keys {d N : Nat} {L L' : List (Nat × Value)} (h : L.map Prod.fst = L'.map Prod.fst) : okd d N L = okd d N L' := by unfold okd; rw [fresh_keys h]
theorem okps_keys {N : Nat} : ∀ {ps : List Nat} {L L' : List (Nat × Value)}, L.map Prod.fst = L'.map Prod.fst → okps N ps L = okps N ps L'
  | [], _, _, _ => rfl
  | p :: ps, L, L', h => by
    simp only [okps, okd_keys h]
    rw [okps_keys (L := (p, undef) :: L) (L' := (p, undef) :: L') (by simp [h])]

theorem FOK.params {N : Nat} {D D' : List Deferred} : ∀ {ps : List Nat} {vs : List Value} {L : List (Nat × Value)} {tmps : Array Value}, ps.length = vs.length → okps N ps L = true →
    FOK N D L { tmps, defers := D } → FOK N D' (params ps vs L) { tmps := (ps.zip vs).foldl (fun t (p, v) => t.setIfInBounds p v) tmps, defers := D' }
  | [], [], L, tmps, _, _, hf => ⟨hf.size, rfl, hf.at_⟩
  | p :: ps, v :: vs, L, tmps, hl, hk, hf => by
    simp only [okps] at hk
    have hd : okd p N L = true := by cases h : okd p N L with | true => rfl | false => simp [h] at hk
    simp only [hd, cond_true] at hk
    exact FOK.params (ps := ps) (vs := vs) (L := (p, v) :: L) (by simpa using hl) (by rw [← hk]; exact okps_keys (by simp)) (hf.put (v := v) hd)
  | [], _ :: _, _, _, hl, _, _ => by simp at hl
  | _ :: _, [], _, _, hl, _, _ => by simp at hl

section range
variable {P : Program} {N : Nat} {Q : Exit → Act → World → Prop} {D : List Deferred} {L : List (Nat × Value)} {w₀ : World} {F : Nat → Prop} {M M₀ Φ : List Res}

/-- a loop's record in its states -/
structure RC (rc : LoopState → Option Code → Loop) : Prop where
  st : ∀ s p, (rc s p).state = s
  pd : ∀ s p, (rc s p).pending = p
  up : ∀ s p t q, { rc s p with state := t, pending := q } = rc t q

/-- what a round comes to -/
def RoundR (w₀ : World) (F : Nat → Prop) (Φ : List Res) (l rD : Nat) (rc : LoopState → Option Code → Loop) (Mi : List Res) {Γ : Type} (Mi' : Γ → List Res) {G : Type} (Mx : G → List Res) (cx : G → Code) (w : World) : Ending → World → Prop :=
  Went (StR w₀ F (own l (.loop (rc .ready none)) :: own rD (.deferred (some [])) :: Mi) Φ) (fun g => StR w₀ F (own l (.loop (rc .ready none)) :: own rD (.deferred (some [])) :: Mi' g) Φ)
    (fun g => StR w₀ F (own l (.loop (rc .done (some (cx g)))) :: own rD (.deferred (some [])) :: Mx g) Φ) w

/-- one round of the loop, from the assignments to the loop's variables on -/
def Rnd (P : Program) (N : Nat) (l rD : Nat) (rc : LoopState → Option Code → Loop) (assign body : Code) (L : List (Nat × Value)) (Φ : List Res) (R : World → Ending → World → Prop) (Mi : List Res) (w : World) : Prop :=
  C (some l) P N assign (Exit.then (fun a₁ w₁ => ∃ w₂, (Instr.beginRound l).run P w₁ = .ok () w₂ ∧ body.wpIn (Wf (some l)) 0 P (roundPost P l (R w)) a₁ w₂) (fun _ _ _ => False)) [] L
    (St w (Us (own l (.loop (rc .ready none)) :: own rD (.deferred (some [])) :: Mi)) (own l (.loop (rc .ready none)) :: own rD (.deferred (some [])) :: Mi) Φ)

theorem StR.lt {w : World} {M : List Res} (h : St w₀ F M Φ w) : ∀ b, (StR w₀ F M Φ).U b → b < w.heap.size := by
  rintro b (hb | ⟨r, hr, hb⟩ | ⟨i, hi, hb⟩)
  · exact Nat.lt_of_lt_of_le hb.1 h.le
  · exact ((h.own_ r hr).2 b hb).1
  · exact (h.imm i hi).2.1 b hb

theorem C.range {g : Operand} {ps : List Nat} {assign body : Code} {f : FuncId} {cap : List Value} {xs : List (List Value)} {mine need : Res} {nd : Nat} {Γ : Type} {Mk : Nat → Γ → List Res} (g₀ : Γ)
    (hg : Ev L g (.func (.func f) [].toArray cap.toArray)) (he : En P f) (it : Iter P f cap xs mine need) (pk : Pick M mine (Mk 0 g₀)) (hnd : nth Φ nd = some need) (hps : okps N ps L = true) (hxs : ∀ i v, nth xs i = some v → ps.length = v.length)
    {G : Type} (Mx : G → List Res) (cx : G → Code)
    (hround : ∀ (l rD : Nat) (rc : LoopState → Option Code → Loop) (w : World) (i : Nat) (γ : Γ) (v : List Value), RC rc → St w₀ F (own l (.loop (rc .ready none)) :: own rD (.deferred (some [])) :: Mk i γ) Φ w → nth xs i = some v →
      Rnd P N l rD rc assign body (params ps v L) Φ (RoundR w₀ F Φ l rD rc (Mk i γ) (Mk (i + 1)) Mx cx) (Mk i γ) w)
    (hdone : ∀ rD γ, w₀.heap.size ≤ rD → X N .normal Q (mk rD :: D) L (St w₀ F (own rD (.deferred (some [])) :: Mk xs.length γ) Φ))
    (hstop : ∀ rD g, w₀.heap.size ≤ rD → C none P N (cx g) Q (mk rD :: D) L (St w₀ F (own rD (.deferred (some [])) :: Mx g) Φ)) :
    C none P N (.rangeFunc g ps.toArray assign body) Q D L (St w₀ F M Φ) := by
  intro a w hf hA
  refine wpIn_rangeFunc fun fn _ => ?_
  let rD := w.heap.size
  let l := w.heap.size + 1
  let rc : LoopState → Option Code → Loop := lrec fn a.tmps ps.toArray assign body rD
  let w₁ := (w.alloc (.deferred (some []))).alloc (.loop (rc .ready none))
  have hrun : (invoke (.fn (.func f) cap.toArray) #[.func (.yield l) #[] #[]]).run P w₁ = .ok (.enter f (.func (.yield l) #[] #[] :: cap).toArray) w₁ := by
    simp only [invoke]
    have := he (.func (.yield l) #[] #[] :: cap).toArray w₁
    simpa using this
  have hld : w₀.heap.size ≤ rD := hA.le
  -- the state as the loop begins
  have hA0 := hA.permM pk.perm
  obtain ⟨hap, _⟩ := List.pairwise_cons.1 hA0.apart
  have hmine := hA0.own_ mine (List.mem_cons_self ..)
  have e1 : Eff no w (w.alloc (.deferred (some []))) := Eff.alloc w _
  have e2 : Eff no (w.alloc (.deferred (some []))) w₁ := Eff.alloc _ _
  have s1 : St w₀ F (own rD (.deferred (some [])) :: Mk 0 g₀) Φ (w.alloc (.deferred (some []))) :=
    hA0.dropM.extM e1 (heap_alloc_new w _) (fun b hb => by simp only [own] at hb; subst hb; simp [rD])
  have s2 : St w₀ F (own l (.loop (rc .ready none)) :: own rD (.deferred (some [])) :: Mk 0 g₀) Φ w₁ := by
    refine s1.extM e2 ?_ (fun b hb => ?_)
    · have := heap_alloc_new (w.alloc (.deferred (some []))) (.loop (rc .ready none))
      simpa [own, l, w₁] using this
    · simp only [own] at hb; subst hb; simp [l, w₁]
  let I : Nat → Γ → Res := fun i γ => StR w₀ F (own l (.loop (rc .ready none)) :: own rD (.deferred (some [])) :: Mk i γ) Φ
  let X' : G → Res := fun g => StR w₀ F (own l (.loop (rc .done (some (cx g)))) :: own rD (.deferred (some [])) :: Mx g) Φ
  have hcall := it l Γ I g₀ G X' w₁ ?need ?yields s2 ?mine ?apart (StR.lt s2) ?lt
  case need => exact fun i γ w' h => (St.see (r := need) h nd hnd)
  case mine => exact mine.eff (mine.eff hmine.1 e1 (fun b hb => ⟨(hmine.2 b hb).1, fun h => h⟩)) e2 (fun b hb => ⟨Nat.lt_of_lt_of_le (hmine.2 b hb).1 e1.size, fun h => h⟩)
  case lt => exact fun b hb => Nat.lt_of_lt_of_le (hmine.2 b hb).1 (Nat.le_trans e1.size e2.size)
  case apart =>
    rintro b hb hm
    have hlt := (hmine.2 b hm).1
    rcases hb with hb | ⟨r, hr, hb⟩ | ⟨i, hi, hb⟩
    · rcases (hmine.2 b hm).2 with h | h
      · exact hb.2 h
      · exact absurd h (Nat.not_le.2 hb.1)
    · rcases List.mem_cons.1 hr with rfl | hr
      · simp only [own] at hb; simp only [hb, l] at hlt; omega
      · rcases List.mem_cons.1 hr with rfl | hr
        · simp only [own] at hb; simp only [hb, rD] at hlt; omega
        · exact hap r hr b hm hb
    · exact (hA0.imm i hi).2.2 mine (List.mem_cons_self ..) b hm hb
  case yields =>
    intro i γ wr v hv hI _
    have hst : St w₀ F (own l (.loop (rc .ready none)) :: own rD (.deferred (some [])) :: Mk i γ) Φ wr := hI
    have hl : wr.heap[l]? = some (.loop (rc .ready none)) := (hst.own_ _ (List.mem_cons_self ..)).1
    have hlen := hxs i v hv
    refine ⟨fn, _, assign, body, run_yield hl (by simp [rc, lrec, hlen]), ?_⟩
    refine RoundIn.mono (roundIn_of_wpIn (F := Wf none) (l := l) (R := RoundR w₀ F Φ l rD rc (Mk i γ) (Mk (i + 1)) Mx cx wr) trivial ?_) (fun e w' h => h)
    have hr := hround l rD rc wr i γ v ⟨fun _ _ => rfl, fun _ _ => rfl, fun _ _ _ _ => rfl⟩ hst hv
    refine hr _ wr ?_ hst.rebase
    have := FOK.params (D := D) (D' := []) (tmps := a.tmps) hlen hps ⟨hf.size, rfl, hf.at_⟩
    simpa [rc, lrec] using this
  refine ⟨l, [mk rD], w₁, { target := .fn (.func f) cap.toArray, args := #[.func (.yield l) #[] #[]] }, w₁, f, _, w₁, run_enterLoop_outer fn a.tmps ps.toArray assign body, ?_, fun _ _ => trivial, hrun, fun h => by simp [Fence.wide] at h, callsWf (hcall.mono ?_)⟩
  · have h1 := hg N D a hf
    have h2 : a.eval (.const (.func (.yield l) #[] #[])) = .func (.yield l) #[] #[] := rfl
    simp [resolve, h1, h2, Deferred.ofValue]
  · rintro e w' ⟨⟨v, rfl⟩, hE, ⟨γ, h⟩ | ⟨x, h⟩⟩
    · have hst : St w₀ F (own l (.loop (rc .ready none)) :: own rD (.deferred (some [])) :: Mk xs.length γ) Φ w' := h
      have hl := (hst.own_ _ (List.mem_cons_self ..)).1
      refine ⟨none, _, run_endLoop (r := rc .ready none) hl (by simp [rc, lrec]), ?_⟩
      have hs3 : St w₀ F (own l (.loop { rc .ready none with state := .exhausted }) :: own rD (.deferred (some [])) :: Mk xs.length γ) Φ (w'.putObj l (.loop { rc .ready none with state := .exhausted })) :=
        hst.upd .here Eff.putObj (World.putObj_heap_same (Array.getElem?_eq_some_iff.1 hl).1) (fun b hb => by simp only [own] at hb; subst hb; exact ⟨.inl rfl, by simpa using (Array.getElem?_eq_some_iff.1 hl).1⟩)
      exact hdone rD γ hld _ _ ⟨hf.size, by show mk rD :: a.defers = _; rw [hf.defs], hf.at_⟩ hs3.dropM
    · have hst : St w₀ F (own l (.loop (rc .done (some (cx x)))) :: own rD (.deferred (some [])) :: Mx x) Φ w' := h
      have hl := (hst.own_ _ (List.mem_cons_self ..)).1
      refine ⟨some (cx x), _, run_endLoop (r := rc .done (some (cx x))) hl (by simp [rc, lrec]), ?_⟩
      have hs3 : St w₀ F (own l (.loop { rc .done (some (cx x)) with state := .exhausted }) :: own rD (.deferred (some [])) :: Mx x) Φ (w'.putObj l (.loop { rc .done (some (cx x)) with state := .exhausted })) :=
        hst.upd .here Eff.putObj (World.putObj_heap_same (Array.getElem?_eq_some_iff.1 hl).1) (fun b hb => by simp only [own] at hb; subst hb; exact ⟨.inl rfl, by simpa using (Array.getElem?_eq_some_iff.1 hl).1⟩)
      exact hstop rD x hld _ _ ⟨hf.size, by show mk rD :: a.defers = _; rw [hf.defs], hf.at_⟩ hs3.dropM

/-! a round's walk -/
theorem Rnd.start {l rD : Nat} {rc : LoopState → Option Code → Loop} {assign body : Code} {R : World → Ending → World → Prop} {Mi : List Res} {w : World}
    (h : C (some l) P N assign (Exit.then (fun a₁ w₁ => ∃ w₂, (Instr.beginRound l).run P w₁ = .ok () w₂ ∧ body.wpIn (Wf (some l)) 0 P (roundPost P l (R w)) a₁ w₂) (fun _ _ _ => False)) [] L
      (St w (Us (own l (.loop (rc .ready none)) :: own rD (.deferred (some [])) :: Mi)) (own l (.loop (rc .ready none)) :: own rD (.deferred (some [])) :: Mi) Φ)) : Rnd P N l rD rc assign body L Φ R Mi w := h

theorem putLoop {w₀ w : World} {F : Nat → Prop} {M Φ : List Res} {l : Nat} {r r' : Loop} (h : St w₀ F (own l (.loop r) :: M) Φ w) : St w₀ F (own l (.loop r') :: M) Φ (w.putObj l (.loop r')) := by
  have hl := (h.own_ _ (List.mem_cons_self ..)).1
  exact h.upd .here Eff.putObj (World.putObj_heap_same (Array.getElem?_eq_some_iff.1 hl).1) (fun b hb => by simp only [own] at hb; subst hb; exact ⟨.inl rfl, by simpa using (Array.getElem?_eq_some_iff.1 hl).1⟩)

/-- behind the assignments to the loop's variables: the body -/
theorem X.body {l : Nat} {rc : LoopState → Option Code → Loop} {body : Code} {Q' : Exit → Act → World → Prop} {w : World} (hrc : RC rc)
    (h : C (some l) P N body Q' [] L (St w F (own l (.loop (rc .busy none)) :: M) Φ)) :
    X N .normal (Exit.then (fun a₁ w₁ => ∃ w₂, (Instr.beginRound l).run P w₁ = .ok () w₂ ∧ body.wpIn (Wf (some l)) 0 P Q' a₁ w₂) (fun _ _ _ => False)) [] L (St w F (own l (.loop (rc .ready none)) :: M) Φ) := by
  intro a w₁ hf hA
  have hl := (hA.own_ _ (List.mem_cons_self ..)).1
  refine ⟨_, run_beginRound (r := rc .ready none) hl (hrc.st _ _), h a _ hf ?_⟩
  have e : ({ rc .ready none with state := .busy } : Loop) = rc .busy none := by
    have h1 := hrc.up .ready none .busy none
    have h2 := hrc.pd .ready none
    rw [← h1]
    generalize rc .ready none = x at *
    cases x; simp_all
  rw [e]
  exact putLoop hA

/-- what a round that is over has done -/
theorem StR.of {w w' : World} {l rD : Nat} {rc : LoopState → Option Code → Loop} {Mi M' : List Res} {o : Obj} (h0 : St w₀ F (own l (.loop (rc .ready none)) :: own rD (.deferred (some [])) :: Mi) Φ w)
    (h : St w (Us (own l (.loop (rc .ready none)) :: own rD (.deferred (some [])) :: Mi)) (own l o :: own rD (.deferred (some [])) :: M') Φ w') :
    Eff (StR w₀ F (own l (.loop (rc .ready none)) :: own rD (.deferred (some [])) :: Mi) Φ).U w w' ∧ (StR w₀ F (own l o :: own rD (.deferred (some [])) :: M') Φ).φ w' ∧
      ∀ b, (StR w₀ F (own l o :: own rD (.deferred (some [])) :: M') Φ).U b → ((StR w₀ F (own l (.loop (rc .ready none)) :: own rD (.deferred (some [])) :: Mi) Φ).U b ∨ w.heap.size ≤ b) ∧ b < w'.heap.size := by
  have h1 := h0.back h
  refine ⟨h.eff.mono (fun x _ hx => .inr (.inl hx)), h1, fun b hb => ⟨?_, StR.lt h1 b hb⟩⟩
  rcases hb with hb | ⟨r, hr, hb⟩ | ⟨i, hi, hb⟩
  · exact .inl (.inl hb)
  · rcases ((h.own_ r hr).2 b hb).2 with h2 | h2
    · exact .inl (.inr (.inl h2))
    · exact .inr h2
  · exact .inl (.inr (.inr ⟨i, hi, hb⟩))

variable {w : World} {l rD : Nat} {rc : LoopState → Option Code → Loop} {Mi : List Res} {Γ : Type} {Mi' : Γ → List Res} {G : Type} {Mx : G → List Res} {cx : G → Code}

theorem rc_of (hrc : RC rc) {s t : LoopState} {p q : Option Code} : ({ rc s p with state := t, pending := q } : Loop) = rc t q := hrc.up s p t q

/-- the round goes on -/
theorem X.next_ (γ : Γ) (hrc : RC rc) (h0 : St w₀ F (own l (.loop (rc .ready none)) :: own rD (.deferred (some [])) :: Mi) Φ w) :
    X N .normal (roundPost P l (RoundR w₀ F Φ l rD rc Mi Mi' Mx cx w)) [] L (St w (Us (own l (.loop (rc .ready none)) :: own rD (.deferred (some [])) :: Mi)) (own l (.loop (rc .busy none)) :: own rD (.deferred (some [])) :: Mi' γ) Φ) := by
  intro a w' _ hA
  have hl := (hA.own_ _ (List.mem_cons_self ..)).1
  refine ⟨_, _, run_endRound (r := rc .busy none) none hl, ?_⟩
  have e : ({ rc .busy none with state := if (none : Option Code).isNone = true then .ready else .done, pending := none } : Loop) = rc .ready none := hrc.up _ _ _ _
  rw [e]
  obtain ⟨h1, h2, h3⟩ := StR.of h0 (putLoop (r' := rc .ready none) hA)
  exact ⟨h1, .inl ⟨rfl, γ, h2, h3⟩⟩
theorem stop_ (hrc : RC rc) (h0 : St w₀ F (own l (.loop (rc .ready none)) :: own rD (.deferred (some [])) :: Mi) Φ w) (g : G) {w' : World}
    (hA : St w (Us (own l (.loop (rc .ready none)) :: own rD (.deferred (some [])) :: Mi)) (own l (.loop (rc .busy none)) :: own rD (.deferred (some [])) :: Mx g) Φ w') :
    ∃ v w'', (Instr.endRound l (some (cx g))).run P w' = .ok v w'' ∧ RoundR w₀ F Φ l rD rc Mi Mi' Mx cx w (.returned v) w'' := by
  have hl := (hA.own_ _ (List.mem_cons_self ..)).1
  refine ⟨_, _, run_endRound (r := rc .busy none) (some (cx g)) hl, ?_⟩
  have e : ({ rc .busy none with state := if (some (cx g)).isNone = true then .ready else .done, pending := some (cx g) } : Loop) = rc .done (some (cx g)) := hrc.up _ _ _ _
  rw [e]
  obtain ⟨h1, h2, h3⟩ := StR.of h0 (putLoop (r' := rc .done (some (cx g))) hA)
  exact ⟨h1, .inr ⟨rfl, g, h2, h3⟩⟩
/-- the round returns from the function -/
theorem X.stopRet (hrc : RC rc) (h0 : St w₀ F (own l (.loop (rc .ready none)) :: own rD (.deferred (some [])) :: Mi) Φ w) (g : G) (hc : cx g = .ret) :
    X N .ret (roundPost P l (RoundR w₀ F Φ l rD rc Mi Mi' Mx cx w)) [] L (St w (Us (own l (.loop (rc .ready none)) :: own rD (.deferred (some [])) :: Mi)) (own l (.loop (rc .busy none)) :: own rD (.deferred (some [])) :: Mx g) Φ) := by
  intro a w' _ hA
  have := stop_ (P := P) (Mi' := Mi') (cx := cx) hrc h0 g hA
  rw [hc] at this; exact this
/-- the round leaves the loop, or a block around it -/
theorem X.stopExit (hrc : RC rc) (h0 : St w₀ F (own l (.loop (rc .ready none)) :: own rD (.deferred (some [])) :: Mi) Φ w) (g : G) {id : Nat} (hc : cx g = .exit id) :
    X N (.exit id) (roundPost P l (RoundR w₀ F Φ l rD rc Mi Mi' Mx cx w)) [] L (St w (Us (own l (.loop (rc .ready none)) :: own rD (.deferred (some [])) :: Mi)) (own l (.loop (rc .busy none)) :: own rD (.deferred (some [])) :: Mx g) Φ) := by
  intro a w' _ hA
  have := stop_ (P := P) (Mi' := Mi') (cx := cx) hrc h0 g hA
  rw [hc] at this; exact this
end range
end Go.J
namespace Go.J
open Go Go.RowKit

/-- the fact holds, and its blocks are there -/
def Res.ok (r : Res) (w : World) : Prop := r.φ w ∧ ∀ b, r.U b → b < w.heap.size

/-- nothing: a resource that is always there -/
def emp : Res where
  U := no
  φ := fun _ => True
  st := fun _ _ _ _ _ _ _ _ => trivial
/-- a fact on no world -/
def pureR (p : Prop) : Res where
  U := no
  φ := fun _ => p
  st := fun _ _ _ _ _ _ _ h => h
/-- two resources apart from each other -/
def sep (r s : Res) : Res where
  U := fun b => r.U b ∨ s.U b
  φ := fun w => r.φ w ∧ s.φ w ∧ Apart r s
  st := fun w w' a b c d e h => ⟨r.st w w' a b c d (fun x hx => e x (.inl hx)) h.1, s.st w w' a b c d (fun x hx => e x (.inr hx)) h.2.1, h.2.2⟩
/-- two facts side by side -/
def both (r s : Res) : Res where
  U := fun b => r.U b ∨ s.U b
  φ := fun w => r.φ w ∧ s.φ w
  st := fun w w' a b c d e h => ⟨r.st w w' a b c d (fun x hx => e x (.inl hx)) h.1, s.st w w' a b c d (fun x hx => e x (.inr hx)) h.2⟩

theorem both.ok_iff {r s : Res} {w : World} : (both r s).ok w ↔ r.ok w ∧ s.ok w :=
  ⟨fun h => ⟨⟨h.1.1, fun b hb => h.2 b (.inl hb)⟩, ⟨h.1.2, fun b hb => h.2 b (.inr hb)⟩⟩, fun h => ⟨⟨h.1.1, h.2.1⟩, fun b hb => hb.elim (h.1.2 b) (h.2.2 b)⟩⟩

section st
variable {w₀ w w' : World} {F : Nat → Prop} {M M' Φ : List Res}

theorem St.init (w : World) (Φ : List Res) (h : ∀ i ∈ Φ, i.ok w) : St w no [] Φ w := ⟨Eff.refl _ _, by simp, .nil, fun i hi => ⟨(h i hi).1, (h i hi).2, by simp⟩⟩
/-- with one resource that the call may turn -/
theorem St.init1 (w : World) (r : Res) (Φ : List Res) (hr : r.ok w) (h : ∀ i ∈ Φ, i.ok w ∧ Apart r i) : St w r.U [r] Φ w :=
  ⟨Eff.refl _ _, fun s hs => by rw [List.mem_singleton] at hs; subst hs; exact ⟨hr.1, fun b hb => ⟨hr.2 b hb, .inl hb⟩⟩, List.pairwise_singleton _ _, fun i hi => ⟨(h i hi).1.1, (h i hi).1.2, fun s hs => by rw [List.mem_singleton] at hs; subst hs; exact (h i hi).2⟩⟩

theorem St.ok {r : Res} (h : St w₀ F M Φ w) (i : Nat) (hi : nth Φ i = some r) : r.ok w := ⟨(h.imm r (nth_mem hi)).1, (h.imm r (nth_mem hi)).2.1⟩
theorem St.okM {r : Res} (h : St w₀ F M Φ w) (i : Nat) (hi : nth M i = some r) : r.ok w := ⟨(h.own_ r (nth_mem hi)).1, fun b hb => ((h.own_ r (nth_mem hi)).2 b hb).1⟩

theorem St.split {r s : Res} (h : St w₀ F (sep r s :: M) Φ w) : St w₀ F (r :: s :: M) Φ w := by
  obtain ⟨ha, hM⟩ := List.pairwise_cons.1 h.apart
  obtain ⟨⟨h1, h2, h3⟩, h4⟩ := h.own_ _ (List.mem_cons_self ..)
  refine ⟨h.eff, ?_, ?_, ?_⟩
  · intro t ht
    rcases List.mem_cons.1 ht with rfl | ht
    · exact ⟨h1, fun b hb => h4 b (.inl hb)⟩
    · rcases List.mem_cons.1 ht with rfl | ht
      · exact ⟨h2, fun b hb => h4 b (.inr hb)⟩
      · exact h.own_ t (List.mem_cons_of_mem _ ht)
  · refine .cons (fun t ht => ?_) (.cons (fun t ht => ?_) hM)
    · rcases List.mem_cons.1 ht with rfl | ht
      · exact h3
      · exact fun b hb => ha t ht b (.inl hb)
    · exact fun b hb => ha t ht b (.inr hb)
  · intro i hi
    obtain ⟨k1, k2, k3⟩ := h.imm i hi
    refine ⟨k1, k2, fun t ht => ?_⟩
    have k4 := k3 _ (List.mem_cons_self ..)
    rcases List.mem_cons.1 ht with rfl | ht
    · exact fun b hb => k4 b (.inl hb)
    · rcases List.mem_cons.1 ht with rfl | ht
      · exact fun b hb => k4 b (.inr hb)
      · exact k3 t (List.mem_cons_of_mem _ ht)
theorem St.join {r s : Res} (h : St w₀ F (r :: s :: M) Φ w) : St w₀ F (sep r s :: M) Φ w := by
  obtain ⟨ha, hM⟩ := List.pairwise_cons.1 h.apart
  obtain ⟨hb, hM⟩ := List.pairwise_cons.1 hM
  have h1 := h.own_ r (List.mem_cons_self ..)
  have h2 := h.own_ s (List.mem_cons_of_mem _ (List.mem_cons_self ..))
  refine ⟨h.eff, ?_, ?_, ?_⟩
  · intro t ht
    rcases List.mem_cons.1 ht with rfl | ht
    · exact ⟨⟨h1.1, h2.1, ha s (List.mem_cons_self ..)⟩, fun b hx => hx.elim (h1.2 b) (h2.2 b)⟩
    · exact h.own_ t (List.mem_cons_of_mem _ (List.mem_cons_of_mem _ ht))
  · exact .cons (fun t ht b hx => hx.elim (ha t (List.mem_cons_of_mem _ ht) b) (hb t ht b)) hM
  · intro i hi
    obtain ⟨k1, k2, k3⟩ := h.imm i hi
    refine ⟨k1, k2, fun t ht => ?_⟩
    rcases List.mem_cons.1 ht with rfl | ht
    · exact fun b hx => hx.elim (k3 r (List.mem_cons_self ..) b) (k3 s (List.mem_cons_of_mem _ (List.mem_cons_self ..)) b)
    · exact k3 t (List.mem_cons_of_mem _ (List.mem_cons_of_mem _ ht))
end st

/-! what a call comes to -/
/-- a value; nothing that was there has turned -/
def PostV (v : Value) (w : World) : Ending → World → Prop := fun e w' => e = .returned v ∧ Eff no w w'
/-- a value, and a new resource -/
def PostN {X : Type} (H : X → Prop) (V : X → Value) (r : X → Res) (w : World) : Ending → World → Prop := fun e w' =>
  ∃ x, H x ∧ e = .returned (V x) ∧ Eff no w w' ∧ (r x).φ w' ∧ ∀ b, (r x).U b → w.heap.size ≤ b ∧ b < w'.heap.size
/-- a value; the resource r₀ has turned -/
def PostU {X : Type} (H : X → Prop) (V : X → Value) (r₀ : Res) (r : X → Res) (w : World) : Ending → World → Prop := fun e w' =>
  ∃ x, H x ∧ e = .returned (V x) ∧ Eff r₀.U w w' ∧ (r x).φ w' ∧ ∀ b, (r x).U b → (r₀.U b ∨ w.heap.size ≤ b) ∧ b < w'.heap.size

theorem PostV.of {v : Value} {w w' : World} {M Φ : List Res} (h : St w no M Φ w') : PostV v w (.returned v) w' := ⟨rfl, h.eff⟩
theorem PostN.of {X : Type} {H : X → Prop} {V : X → Value} {r : X → Res} {w w' : World} {M Φ : List Res} (x : X) (hx : H x) (h : St w no (r x :: M) Φ w') : PostN H V r w (.returned (V x)) w' := by
  obtain ⟨h1, h2⟩ := h.own_ _ (List.mem_cons_self ..)
  exact ⟨x, hx, rfl, h.eff, h1, fun b hb => ⟨(h2 b hb).2.resolve_left (fun h => h), (h2 b hb).1⟩⟩
theorem PostU.of {X : Type} {H : X → Prop} {V : X → Value} {r₀ : Res} {r : X → Res} {w w' : World} {M Φ : List Res} (x : X) (hx : H x) (h : St w r₀.U (r x :: M) Φ w') : PostU H V r₀ r w (.returned (V x)) w' := by
  obtain ⟨h1, h2⟩ := h.own_ _ (List.mem_cons_self ..)
  exact ⟨x, hx, rfl, h.eff, h1, fun b hb => ⟨(h2 b hb).2, (h2 b hb).1⟩⟩

section calls
variable {r : Option Nat} {P : Program} {N : Nat} {ops : Array Oper} {Q : Exit → Act → World → Prop} {rest : List Oper} {D : List Deferred} {L : List (Nat × Value)} {o : Oper} {w₀ : World} {F : Nat → Prop} {M M' Φ : List Res} {f : FuncId} {args : List Value} {d : Nat}

theorem J.callV {v : Value} (hg : o.guard = none) (hd : o.dst = some d) (hn : okd d N L = true) (hnd : notDefer o.op = true)
    (hrun : ∀ a w, FOK N D L a → (execOp a.eval o).run P w = .ok (.enter f args.toArray) w) (hc : ∀ w, St w₀ F M Φ w → Calls P f args.toArray w (PostV v w))
    (k : J r P N ops Q rest D ((d, v) :: L) (St w₀ F M Φ)) : J r P N ops Q (o :: rest) D L (St w₀ F M Φ) :=
  J.callGen (X := Unit) (V := fun _ => v) (B := fun _ => St w₀ F M Φ) hg hd hn hnd hrun (fun w hA => (hc w hA).mono fun _ _ ⟨h1, h2⟩ => ⟨(), h1, hA.ext h2⟩) (fun _ => k)
/-- the new resource is the caller's own -/
theorem J.callN {X : Type} {H : X → Prop} {V : X → Value} {rn : X → Res} (hg : o.guard = none) (hd : o.dst = some d) (hn : okd d N L = true) (hnd : notDefer o.op = true)
    (hrun : ∀ a w, FOK N D L a → (execOp a.eval o).run P w = .ok (.enter f args.toArray) w) (hc : ∀ w, St w₀ F M Φ w → Calls P f args.toArray w (PostN H V rn w))
    (k : ∀ x, H x → J r P N ops Q rest D ((d, V x) :: L) (St w₀ F (rn x :: M) Φ)) : J r P N ops Q (o :: rest) D L (St w₀ F M Φ) :=
  J.callGen (X := { x // H x }) (V := fun x => V x.1) (B := fun x => St w₀ F (rn x.1 :: M) Φ) hg hd hn hnd hrun (fun w hA => (hc w hA).mono fun _ _ ⟨x, hx, h1, h2, h3, h4⟩ => ⟨⟨x, hx⟩, h1, hA.extM h2 h3 h4⟩) (fun x => k x.1 x.2)
/-- the new resource stays as it is -/
theorem J.callS {X : Type} {H : X → Prop} {V : X → Value} {rn : X → Res} (hg : o.guard = none) (hd : o.dst = some d) (hn : okd d N L = true) (hnd : notDefer o.op = true)
    (hrun : ∀ a w, FOK N D L a → (execOp a.eval o).run P w = .ok (.enter f args.toArray) w) (hc : ∀ w, St w₀ F M Φ w → Calls P f args.toArray w (PostN H V rn w))
    (k : ∀ x, H x → J r P N ops Q rest D ((d, V x) :: L) (St w₀ F M (rn x :: Φ))) : J r P N ops Q (o :: rest) D L (St w₀ F M Φ) :=
  J.callGen (X := { x // H x }) (V := fun x => V x.1) (B := fun x => St w₀ F M (rn x.1 :: Φ)) hg hd hn hnd hrun (fun w hA => (hc w hA).mono fun _ _ ⟨x, hx, h1, h2, h3, h4⟩ => ⟨⟨x, hx⟩, h1, hA.extΦ h2 h3 h4⟩) (fun x => k x.1 x.2)
/-- the resource at this place is turned -/
theorem J.callU {X : Type} {H : X → Prop} {V : X → Value} {r₀ : Res} {rn : X → Res} {Mn : X → List Res} (hg : o.guard = none) (hd : o.dst = some d) (hn : okd d N L = true) (hnd : notDefer o.op = true)
    (hrun : ∀ a w, FOK N D L a → (execOp a.eval o).run P w = .ok (.enter f args.toArray) w) (hu : ∀ x, Upd M r₀ (Mn x) (rn x)) (hc : ∀ w, St w₀ F M Φ w → Calls P f args.toArray w (PostU H V r₀ rn w))
    (k : ∀ x, H x → J r P N ops Q rest D ((d, V x) :: L) (St w₀ F (Mn x) Φ)) : J r P N ops Q (o :: rest) D L (St w₀ F M Φ) :=
  J.callGen (X := { x // H x }) (V := fun x => V x.1) (B := fun x => St w₀ F (Mn x.1) Φ) hg hd hn hnd hrun (fun w hA => (hc w hA).mono fun _ _ ⟨x, hx, h1, h2, h3, h4⟩ => ⟨⟨x, hx⟩, h1, hA.upd (hu x) h2 h3 h4⟩) (fun x => k x.1 x.2)

/-- a fresh box -/
theorem J.box {t : TypeId} {x : Operand} {v : Value} {vs : List Value} (hg : o.guard = none) (hd : o.dst = some d) (hn : okd d N L = true) (ho : o.op = .box t x) (hx : Ev L x v) (hv : v.cells = vs.toArray)
    (k : ∀ b, w₀.heap.size ≤ b → J r P N ops Q rest D ((d, .pointer (some ⟨b, 0, none⟩)) :: L) (St w₀ F (bx b t vs :: M) Φ)) : J r P N ops Q (o :: rest) D L (St w₀ F M Φ) :=
  J.e (X := { b : Nat // w₀.heap.size ≤ b }) hg hd hn (by rw [ho]; rfl) (by rw [ho]; exact E.box hx hv) (fun b => k b.1 b.2)
theorem J.alloc {t : TypeId} {v : Value} {vs : List Value} (hg : o.guard = none) (hd : o.dst = some d) (hn : okd d N L = true) (ho : o.op = .alloc t) (hz : ∀ w, (zeroValue t).run P w = .ok v w) (hv : v.cells = vs.toArray)
    (k : ∀ b, w₀.heap.size ≤ b → J r P N ops Q rest D ((d, .pointer (some ⟨b, 0, none⟩)) :: L) (St w₀ F (bx b t vs :: M) Φ)) : J r P N ops Q (o :: rest) D L (St w₀ F M Φ) :=
  J.e (X := { b : Nat // w₀.heap.size ≤ b }) hg hd hn (by rw [ho]; rfl) (by rw [ho]; exact E.alloc hz hv) (fun b => k b.1 b.2)

/-- a case on what is known -/
theorem J.cases {A : World → Prop} {p : Prop} (h1 : p → J r P N ops Q rest D L A) (h2 : ¬ p → J r P N ops Q rest D L A) : J r P N ops Q rest D L A := (Classical.em p).elim h1 h2
/-- a case on a slot's bool -/
theorem J.split {A : World → Prop} {t : Nat} {b : Bool} (i : Nat) (_h : nth L i = some (t, .bool b)) (h1 : b = true → J r P N ops Q rest D L A) (h2 : b = false → J r P N ops Q rest D L A) : J r P N ops Q rest D L A := by
  cases b
  · exact h2 rfl
  · exact h1 rfl

theorem C.splitM {c : Code} {r' s : Res} (h : C r P N c Q D L (St w₀ F (r' :: s :: M) Φ)) : C r P N c Q D L (St w₀ F (sep r' s :: M) Φ) := h.conseq fun _ => St.split
theorem J.splitM {r' s : Res} (h : J r P N ops Q rest D L (St w₀ F (r' :: s :: M) Φ)) : J r P N ops Q rest D L (St w₀ F (sep r' s :: M) Φ) := h.conseq fun _ => St.split
theorem J.freeze {r' : Res} (h : J r P N ops Q rest D L (St w₀ F M (r' :: Φ))) : J r P N ops Q rest D L (St w₀ F (r' :: M) Φ) := h.conseq fun _ => St.freeze
theorem J.dropM {r' : Res} (h : J r P N ops Q rest D L (St w₀ F M Φ)) : J r P N ops Q rest D L (St w₀ F (r' :: M) Φ) := h.conseq fun _ => St.dropM
theorem J.pickM {r' : Res} (p : Pick M r' M') (h : J r P N ops Q rest D L (St w₀ F (r' :: M') Φ)) : J r P N ops Q rest D L (St w₀ F M Φ) := h.conseq fun _ h => h.permM p.perm
end calls

/-! reading -/
section read
variable {w₀ : World} {F : Nat → Prop} {M Φ : List Res}
/-- a cell of a box -/
theorem ldB {b o : Nat} {t : TypeId} {l : List Value} {v : Value} (i : Nat) (hi : nth M i = some (bx b t l)) (hv : nth l o = some v) : ∀ w, St w₀ F M Φ w → Cells w b o [v] := by
  intro _ hA
  have hb := (hA.get i hi : (own b (cl t l)).φ _)
  refine Cells.own hb o [v] (fun j u hu => ?_)
  cases j with
  | zero => simp at hu; subst hu; exact nth_get hv
  | succ j => simp at hu
/-- some cells of a box -/
theorem ldBs {b o n : Nat} {t : TypeId} {l : List Value} (i : Nat) (hi : nth M i = some (bx b t l)) : ∀ w, St w₀ F M Φ w → Cells w b o ((l.drop o).take n) := by
  intro _ hA
  have hb := (hA.get i hi : (own b (cl t l)).φ _)
  refine Cells.own hb o _ (fun j u hu => ?_)
  rw [List.getElem?_take] at hu
  split at hu
  · rwa [List.getElem?_drop] at hu
  · cases hu
/-- all cells of a box -/
theorem ldA {b : Nat} {t : TypeId} {l : List Value} (i : Nat) (hi : nth M i = some (bx b t l)) : ∀ w, St w₀ F M Φ w → Cells w b 0 l := fun _ hA => Cells.all (fz := (0, 0)) (t := t) (hA.get i hi)
theorem ldBΦ {b o : Nat} {t : TypeId} {l : List Value} {v : Value} (i : Nat) (hi : nth Φ i = some (bx b t l)) (hv : nth l o = some v) : ∀ w, St w₀ F M Φ w → Cells w b o [v] := by
  intro _ hA
  have hb := (hA.see i hi : (own b (cl t l)).φ _)
  refine Cells.own hb o [v] (fun j u hu => ?_)
  cases j with
  | zero => simp at hu; subst hu; exact nth_get hv
  | succ j => simp at hu
theorem ldAΦ {b : Nat} {t : TypeId} {l : List Value} (i : Nat) (hi : nth Φ i = some (bx b t l)) : ∀ w, St w₀ F M Φ w → Cells w b 0 l := fun _ hA => Cells.all (fz := (0, 0)) (t := t) (hA.see i hi)
end read

/-! rows: n elements, each of the same number of cells -/
/-- the elements' cells in memory, wherever the row lies -/
def Row {X : Type} (w : World) (v : Value) (sz : Nat) (enc : X → List Value) (xs : List X) : Prop :=
  (∃ c, v = .slice none 0 c ∧ xs = []) ∨ ∃ b o cap, v = .slice (some ⟨b, o, none⟩) xs.length cap ∧ xs.length ≤ cap ∧ ∀ i x, xs[i]? = some x → Cells w b (o + i * sz) (enc x)

/-- a row that stays as it is -/
def rowI {X : Type} (b o : Nat) (sz : Nat) (enc : X → List Value) (xs : List X) : Res where
  U := fun x => x = b ∧ xs ≠ []
  φ := fun w => ∀ i x, xs[i]? = some x → Cells w b (o + i * sz) (enc x)
  st := by
    intro w w' _ _ _ _ hb h i x hx
    exact (h i x hx).keep (hb b ⟨rfl, fun e => by simp [e] at hx⟩)

section rows
variable {w₀ : World} {F : Nat → Prop} {M Φ : List Res} {X : Type} {b o sz : Nat} {enc : X → List Value} {xs : List X}
/-- an element of a row -/
theorem ldR (j : Nat) (hj : nth Φ j = some (rowI b o sz enc xs)) {i : Nat} {x : X} (hx : xs[i]? = some x) : ∀ w, St w₀ F M Φ w → Cells w b (o + i * sz) (enc x) :=
  fun _ hA => (hA.see (r := rowI b o sz enc xs) j hj) i x hx
/-- a part of an element of a row -/
theorem ldRp (j : Nat) (hj : nth Φ j = some (rowI b o sz enc xs)) {i k : Nat} {x : X} {v : Value} (hx : xs[i]? = some x) (hv : nth (enc x) k = some v) : ∀ w, St w₀ F M Φ w → Cells w b (o + i * sz + k) [v] := by
  intro w hA
  have := (hA.see (r := rowI b o sz enc xs) j hj) i x hx
  refine this.sub k (fun m u hu => ?_)
  cases m with
  | zero => simp at hu; subst hu; exact nth_get hv
  | succ m => simp at hu
theorem rowI.ok_of (hf : ∀ x ∈ xs, enc x ≠ []) {w : World} (h : (rowI b o sz enc xs).φ w) : (rowI b o sz enc xs).ok w := by
  refine ⟨h, fun c ⟨hc, hne⟩ => ?_⟩
  subst hc
  cases xs with
  | nil => exact absurd rfl hne
  | cons x xs =>
    have h1 := h 0 x rfl
    cases he : enc x with
    | nil => exact absurd he (hf x (List.mem_cons_self ..))
    | cons v vs => rw [he] at h1; exact h1.lt
end rows

/-! make -/
section make
variable {r : Option Nat} {P : Program} {N : Nat} {ops : Array Oper} {Q : Exit → Act → World → Prop} {rest : List Oper} {D : List Deferred} {L : List (Nat × Value)} {o : Oper} {w₀ : World} {F : Nat → Prop} {M Φ : List Res} {d : Nat}

theorem madeCells_one (z : Value) (n : Nat) : madeCells #[z] n = (List.replicate n z).toArray := by
  apply Array.ext
  · simp [madeCells]
  · intro i h1 h2; simp [madeCells, Nat.mod_one]
theorem madeCells_list (zs : List Value) (hz : zs ≠ []) (n : Nat) : madeCells zs.toArray (n * zs.length) = ((List.replicate n zs).flatten).toArray := by
  apply Array.ext
  · simp [madeCells]
  · intro i h1 h2
    have hpos : 0 < zs.length := List.length_pos_iff.2 hz
    have hm : i % zs.length < zs.length := Nat.mod_lt _ hpos
    simp only [madeCells, Array.getElem_map, Array.getElem_range, List.size_toArray, List.getElem_toArray]
    rw [getElem!_pos zs.toArray _ (by simpa using hm)]
    simp only [List.getElem_toArray]
    have key : ∀ (n i : Nat) (h : i < ((List.replicate n zs).flatten).length), ((List.replicate n zs).flatten)[i] = zs[i % zs.length]'(Nat.mod_lt _ hpos) := by
      intro n
      induction n with
      | zero => intro i h; simp at h
      | succ n ih =>
        intro i h
        simp only [List.replicate_succ, List.flatten_cons]
        rw [List.getElem_append]
        split
        · rename_i hi; simp [Nat.mod_eq_of_lt hi]
        · rename_i hi
          have hge : zs.length ≤ i := Nat.le_of_not_lt hi
          rw [ih]
          congr 1
          rw [Nat.mod_eq_sub_mod hge]
    exact (key n i (by simpa using h2)).symm

/-- make([]T, n) -/
theorem J.make {t e : TypeId} {i : TypeInfo} {z : Value} {zs : List Value} {x y : Operand} {q q' : IntKind} {n : Nat} (hg : o.guard = none) (hd : o.dst = some d) (hn : okd d N L = true) (ho : o.op = .makeSlice t x y)
    (ht : P.underlying t = some (.slice e)) (hi : P.info? e = some i) (hz : i.zero = some z) (hzs : z.cells = zs.toArray) (hsz : i.size = zs.length) (hne : zs ≠ []) (hx : Ev L x (.int q n)) (hy : Ev L y (.int q' n)) (hb : i.bytes * n ≤ 281474976710656) (hn63 : n ≤ 9223372036854775807)
    (k : ∀ b, w₀.heap.size ≤ b → J r P N ops Q rest D ((d, .slice (some ⟨b, 0, none⟩) n n) :: L) (St w₀ F (bx b e (List.replicate n zs).flatten :: M) Φ)) : J r P N ops Q (o :: rest) D L (St w₀ F M Φ) := by
  refine J.e (X := { b : Nat // w₀.heap.size ≤ b }) (V := fun b => .slice (some ⟨b.1, 0, none⟩) n n) (B := fun b => St w₀ F (bx b.1 e (List.replicate n zs).flatten :: M) Φ) hg hd hn (by rw [ho]; rfl) ?_ (fun b => k b.1 b.2)
  intro N D a w o' ho' _ hf hA
  have hb' : (i.bytes : Int) * (n : Int) ≤ 281474976710656 := by
    have h : ((i.bytes * n : Nat) : Int) ≤ 281474976710656 := by omega
    rwa [Int.natCast_mul] at h
  have hr := run_make (P := P) w t e i z ht hi hz q q' n n (by omega) (by omega) hb' (by omega)
  simp only [Int.toNat_natCast, hzs, hsz, madeCells_list zs hne] at hr
  refine ⟨⟨w.heap.size, hA.le⟩, w.alloc (cl e (List.replicate n zs).flatten), ?_, hA.extM (Eff.alloc w _) ?_ ?_⟩
  · simp [execOp, ho', ho, hx N D a hf, hy N D a hf, hr]
  · exact heap_alloc_new w _
  · intro b hb; simp only [own] at hb; subst hb; simp
end make
end Go.J
namespace Go.J
open Go Go.RowKit

/-- whether a guarded operation is carried out -/
def Gd (ops : Array Oper) (N : Nat) (L : List (Nat × Value)) (o : Oper) (g : Bool) : Prop := ∀ D a, FOK N D L a → Region.wanted o (yielded ops a.tmps) = g

section
variable {r : Option Nat} {P : Program} {N : Nat} {ops : Array Oper} {l : List Oper} {Q : Exit → Act → World → Prop} {rest : List Oper} {D : List Deferred} {L : List (Nat × Value)} {A : World → Prop} {o : Oper}

theorem Gd.one {j d : Nat} {want b : Bool} (hg : o.guard = some (j, want)) (hj : (nth l j).bind (·.dst) = some d) (hn : Nat.blt d N = true) (hb : Ev L (.tmp d) (.bool b)) : Gd l.toArray N L o (b == want) := by
  intro D a hf
  have hj' : (l.toArray[j]?).bind (·.dst) = some d := by
    cases h : nth l j with
    | none => simp [h] at hj
    | some x => simp [nth_get h]; simpa [h] using hj
  exact wanted_of hg hj' (hb N D a hf) (by rw [hf.size]; simpa using hn)
theorem Gd.two {j d : Nat} {want b g : Bool} (hg : o.guard = some (j, want)) (hj : (nth l j).bind (·.dst) = some d) (hn : Nat.blt d N = true) (hb : Ev L (.tmp d) (gv g (.bool b))) : Gd l.toArray N L o (g && (b == want)) := by
  intro D a hf
  have hj' : (l.toArray[j]?).bind (·.dst) = some d := by
    cases h : nth l j with
    | none => simp [h] at hj
    | some x => simp [nth_get h]; simpa [h] using hj
  have hlt : d < a.tmps.size := by rw [hf.size]; simpa using hn
  have h1 := hb N D a hf
  cases g with
  | true => simpa using wanted_of hg hj' (by simpa [gv] using h1) hlt
  | false =>
    have h2 : a.tmps[d]? = some undef := by
      simp only [Act.eval, Array.getD_eq_getD_getElem?, gv] at h1
      rw [Array.getElem?_eq_getElem hlt] at h1 ⊢
      simpa using h1
    have h3 : yielded l.toArray a.tmps j = none := by unfold yielded; rw [hj']; simp only [Option.bind_some, h2]; rfl
    simp [Region.wanted, hg, h3]

theorem SelG.n {g h : Bool} {L L' : List (Nat × Value)} {s : Nat} {v : Value} (i : Nat) (hi : nth L i = some (s, gv (g && h) v)) (t : SelG g L L') : SelG g L ((s, gv h v) :: L') := by
  intro q hq hgt
  rcases List.mem_cons.1 hq with rfl | hq
  · refine .inl ?_
    have := nth_mem hi
    rw [hgt, Bool.true_and] at this; exact this
  · exact t q hq hgt
theorem andL {g h : Bool} (e : (g && h) = true) : g = true := by cases g <;> simp_all
theorem andR {g h : Bool} (e : (g && h) = true) : h = true := by cases g <;> simp_all

theorem J.gQ {d : Nat} {g : Bool} {v : Value} {Lg : List (Nat × Value)} (hG : Gd ops N L o g) (hd : o.dst = some d) (hn : okd d N L = true) (hnd : notDefer o.op = true) (hs : SelG g L Lg) (hq : g = true → Qt P A o.op o.type Lg v)
    (k : J r P N ops Q rest D ((d, gv g v) :: L) A) : J r P N ops Q (o :: rest) D L A := by
  intro a w hf hA
  have hw := hG D a hf
  cases hbw : g with
  | true =>
    simp only [wpListIn, hw, hbw, if_true]
    refine ⟨fun _ _ => trivial, ?_⟩
    rw [semAt_of hnd, hq hbw N D a w o rfl rfl (hs.fok hbw hf) hA]
    show wpListIn _ _ _ _ _ _ (a.put o.dst v) w
    rw [hd]
    refine k _ _ ?_ hA
    have := hf.put (v := v) hn
    simpa [gv, hbw] using this
  | false =>
    simp only [wpListIn, hw, hbw]
    refine ⟨fun _ _ => trivial, ?_⟩
    rw [hd]
    refine k _ _ ?_ hA
    have := hf.put (v := undef) hn
    simpa [gv, hbw] using this

theorem J.gCall {w₀ : World} {F : Nat → Prop} {M Φ : List Res} {d : Nat} {g : Bool} {v : Value} {Lg : List (Nat × Value)} {f : FuncId} {args : List Value} (hG : Gd ops N L o g) (hd : o.dst = some d) (hn : okd d N L = true) (hnd : notDefer o.op = true) (hs : SelG g L Lg)
    (hrun : ∀ a w, FOK N D Lg a → (execOp a.eval o).run P w = .ok (.enter f args.toArray) w) (hc : g = true → ∀ w, St w₀ F M Φ w → Calls P f args.toArray w (PostV v w))
    (k : J r P N ops Q rest D ((d, gv g v) :: L) (St w₀ F M Φ)) : J r P N ops Q (o :: rest) D L (St w₀ F M Φ) := by
  intro a w hf hA
  have hw := hG D a hf
  cases hbw : g with
  | true =>
    simp only [wpListIn, hw, hbw, if_true]
    refine ⟨fun _ _ => trivial, ?_⟩
    rw [semAt_of hnd, hrun a w (hs.fok hbw hf)]
    refine ⟨fun h => by simp [Fence.wide] at h, callsWf ((hc hbw w hA).mono ?_)⟩
    rintro e w' ⟨rfl, hE⟩
    show wpListIn _ _ _ _ _ _ (a.put o.dst v) w'
    rw [hd]
    refine k _ _ ?_ (hA.ext hE)
    have := hf.put (v := v) hn
    simpa [gv, hbw] using this
  | false =>
    simp only [wpListIn, hw, hbw]
    refine ⟨fun _ _ => trivial, ?_⟩
    rw [hd]
    refine k _ _ ?_ hA
    have := hf.put (v := undef) hn
    simpa [gv, hbw] using this

/-- the guard takes the operation -/
theorem J.gT {g : Bool} (hG : Gd ops N L o g) (h : g = true) (k : J r P N ops Q (bare o :: rest) D L A) : J r P N ops Q (o :: rest) D L A := by
  intro a w hf hA
  have hw := hG D a hf
  have := k a w hf hA
  simp only [wpListIn, Region.wanted, bare, if_true] at this
  simp only [wpListIn, hw, h, if_true]
  exact this
/-- the guard lets the operation by -/
theorem J.gF {d : Nat} {g : Bool} (hG : Gd ops N L o g) (h : g = false) (hd : o.dst = some d) (hn : okd d N L = true) (k : J r P N ops Q rest D L A) : J r P N ops Q (o :: rest) D L A := by
  intro a w hf hA
  have hw := hG D a hf
  simp only [wpListIn, hw, h]
  refine ⟨fun _ _ => trivial, ?_⟩
  rw [hd]
  have := hf.put (v := undef) hn
  exact k _ _ ⟨this.size, this.defs, fun p hp => this.at_ p (List.mem_cons_of_mem _ hp)⟩ hA

variable {id k d n : Nat} {ms : List Nat} {Lk Lg : List (Nat × Value)} {v : Value} {g : Bool}
theorem JD.gQ (ho : nth l k = some o) (hG : Gd l.toArray N Lk o g) (hd : o.dst = some d) (hn : okd d N Lk = true) (hs : SelG g Lk Lg) (hq : g = true → Qt P A o.op o.type Lg v)
    (h : JD r P N id l ms n Q D L A (k + 1) ((d, gv g v) :: Lk)) : JD r P N id l ms n Q D L A k Lk := by
  intro H
  refine h (.cons H (nth_get ho) hd hn fun D a hf => ?_)
  have hw := hG D a hf
  cases hbw : g with
  | true =>
    refine .inl ⟨by rw [hw, hbw], fun w hA => ?_⟩
    unfold Oper.quietAt
    rw [hq hbw N D a w o rfl rfl (hs.fok hbw hf) hA]
    exact ⟨rfl, by simp [gv]⟩
  | false => exact .inr ⟨by rw [hw, hbw], by simp [gv]⟩
theorem JD.callV {w₀ : World} {F : Nat → Prop} {M Φ : List Res} {f : FuncId} {args : List Value} (ho : nth l k = some o) (hg : o.guard = none) (hd : o.dst = some d) (hn : okd d N Lk = true)
    (hrun : ∀ D a w, FOK N D Lk a → (execOp a.eval o).run P w = .ok (.enter f args.toArray) w) (hc : ∀ w, St w₀ F M Φ w → Calls P f args.toArray w (PostV v w))
    (h : JD r P N id l ms n Q D L (St w₀ F M Φ) (k + 1) ((d, v) :: Lk)) : JD r P N id l ms n Q D L (St w₀ F M Φ) k Lk := by
  intro H
  refine h (.cons H (nth_get ho) hd hn fun D a hf => .inl ⟨by simp [Region.wanted, hg], fun w hA => ?_⟩)
  unfold Oper.quietAt
  rw [hrun D a w hf]
  exact ⟨rfl, (hc w hA).mono fun _ _ ⟨h1, h2⟩ => ⟨h1, hA.ext h2⟩⟩
theorem JD.gCall {w₀ : World} {F : Nat → Prop} {M Φ : List Res} {f : FuncId} {args : List Value} (ho : nth l k = some o) (hG : Gd l.toArray N Lk o g) (hd : o.dst = some d) (hn : okd d N Lk = true) (hs : SelG g Lk Lg)
    (hrun : ∀ D a w, FOK N D Lg a → (execOp a.eval o).run P w = .ok (.enter f args.toArray) w) (hc : g = true → ∀ w, St w₀ F M Φ w → Calls P f args.toArray w (PostV v w))
    (h : JD r P N id l ms n Q D L (St w₀ F M Φ) (k + 1) ((d, gv g v) :: Lk)) : JD r P N id l ms n Q D L (St w₀ F M Φ) k Lk := by
  intro H
  refine h (.cons H (nth_get ho) hd hn fun D a hf => ?_)
  have hw := hG D a hf
  cases hbw : g with
  | true =>
    refine .inl ⟨by rw [hw, hbw], fun w hA => ?_⟩
    unfold Oper.quietAt
    rw [hrun D a w (hs.fok hbw hf)]
    exact ⟨rfl, by simpa [gv] using (hc hbw w hA).mono fun _ _ ⟨h1, h2⟩ => ⟨h1, hA.ext h2⟩⟩
  | false => exact .inr ⟨by rw [hw, hbw], by simp [gv]⟩
theorem JD.tailS {w₀ : World} {F : Nat → Prop} {M Φ : List Res} (hm : P.follows .mixedOrders = true) (hB : drawB l ms n = true) (T : J r P N l.toArray Q (l.drop n) D Lk (St w₀ F M Φ)) : JD r P N id l ms n Q D L (St w₀ F M Φ) n Lk :=
  JD.tail hm hB (fun _ h => h.drew) T
end

section
variable {P : Program} {A : World → Prop} {L : List (Nat × Value)} {ty t : TypeId} {x y z : Operand} {v : Value}
/-- a field's place, its offset written out -/
theorem Q.fa {fs : Array Field} {fd : Field} {i b o s : Nat} (off : Nat) (ht : P.underlying t = some (.struct fs)) (hf : fs[i]? = some fd) (hs : Sz P fd.type s) (h0 : Nat.beq s 0 = false) (hoff : fd.offset = off) (hx : Ev L x (.pointer (some ⟨b, o, none⟩))) :
    Qt P A (.fieldAddr t x i) ty L (.pointer (some ⟨b, o + off, none⟩)) := by
  subst hoff
  exact Q.fieldAddr ht hf hs (Nat.ne_of_beq_eq_false h0) hx
/-- the first field of a variable -/
theorem Q.fa0 {fs : Array Field} {fd : Field} {i b s : Nat} (off : Nat) (ht : P.underlying t = some (.struct fs)) (hf : fs[i]? = some fd) (hs : Sz P fd.type s) (h0 : Nat.beq s 0 = false) (hoff : fd.offset = off) (hx : Ev L x (.pointer (some ⟨b, 0, none⟩))) :
    Qt P A (.fieldAddr t x i) ty L (.pointer (some ⟨b, off, none⟩)) := by
  have := Q.fa (P := P) (A := A) (ty := ty) off ht hf hs h0 hoff hx
  rwa [Nat.zero_add] at this
theorem Q.fds {fs : Array Field} {fd : Field} {i n : Nat} {cs vs : List Value} (off : Nat) (ht : P.underlying t = some (.struct fs)) (hf : fs[i]? = some fd) (hs : Ag P fd.type n) (hoff : fd.offset = off) (hx : Ev L x (.agg cs.toArray)) (hv : (cs.drop off).take n = vs) :
    Qt P A (.field t x i) ty L (.agg vs.toArray) := by
  subst hoff; exact Q.fields ht hf hs hx hv
theorem Q.fd {fs : Array Field} {fd : Field} {i : Nat} {cs : List Value} (off : Nat) (ht : P.underlying t = some (.struct fs)) (hf : fs[i]? = some fd) (hs : Sc P fd.type) (hoff : fd.offset = off) (hx : Ev L x (.agg cs.toArray)) (hv : nth cs off = some v) :
    Qt P A (.field t x i) ty L v := by
  subst hoff; exact Q.field ht hf hs hx hv
theorem Q.pickTb {b : Bool} (hc : Ev L x (.bool b)) (hb : b = true) (h : Ev L y v) : Qt P A (.pick x y z) ty L v := by subst hb; exact Q.pickT hc h
theorem Q.pickFb {b : Bool} (hc : Ev L x (.bool b)) (hb : b = false) (h : Ev L z v) : Qt P A (.pick x y z) ty L v := by subst hb; exact Q.pickF hc h
/-- a conjunction whose second part is not asked -/
theorem Q.load1 {b o o' : Nat} (hx : Ev L x (.pointer (some ⟨b, o, none⟩))) (ht : Sc P t) (ho : o = o') (hc : ∀ w, A w → Cells w b o' [v]) : Qt P A (.load t x) ty L v := by subst ho; exact Q.load hx ht hc
theorem Q.loadsV {b o n : Nat} {vs : List Value} (hx : Ev L x (.pointer (some ⟨b, o, none⟩))) (ht : Ag P t n) (hc : ∀ w, A w → Cells w b o vs) (hn : vs.length = n) : Qt P A (.load t x) ty L (.agg vs.toArray) := Q.loads hx ht hn hc
end

/-- what is known of a type's row of the table -/
def Inf (P : Program) (e : TypeId) (zs : List Value) (by_ : Nat) : Prop := ∃ i z, P.info? e = some i ∧ i.zero = some z ∧ z.cells = zs.toArray ∧ i.size = zs.length ∧ i.bytes = by_

section
variable {r : Option Nat} {P : Program} {N : Nat} {ops : Array Oper} {Q : Exit → Act → World → Prop} {rest : List Oper} {D : List Deferred} {L : List (Nat × Value)} {o : Oper} {w₀ : World} {F : Nat → Prop} {M Φ : List Res} {d : Nat}
/-- make([]T, n) -/
theorem J.mkS {t e : TypeId} {by_ : Nat} {zs : List Value} {x y : Operand} {q q' : IntKind} {n : Nat} (hg : o.guard = none) (hd : o.dst = some d) (hn : okd d N L = true) (ho : o.op = .makeSlice t x y)
    (ht : P.underlying t = some (.slice e)) (hi : Inf P e zs by_) (hne : zs ≠ []) (hx : Ev L x (.int q n)) (hy : Ev L y (.int q' n)) (hb : by_ * n ≤ 281474976710656) (hn63 : n ≤ 9223372036854775807)
    (k : ∀ b, w₀.heap.size ≤ b → J r P N ops Q rest D ((d, .slice (some ⟨b, 0, none⟩) n n) :: L) (St w₀ F (bx b e (List.replicate n zs).flatten :: M) Φ)) : J r P N ops Q (o :: rest) D L (St w₀ F M Φ) := by
  obtain ⟨i, z, h1, h2, h3, h4, rfl⟩ := hi
  exact J.make hg hd hn ho ht h1 h2 h3 h4 hne hx hy hb hn63 k
end
end Go.J
namespace Go.J
open Go Go.RowKit

theorem X.conv {N : Nat} {e : Exit} {Q : Exit → Act → World → Prop} {D : List Deferred} {L : List (Nat × Value)} {A A' : World → Prop} (h : X N e Q D L A) (hA : ∀ w, A' w → A w) : X N e Q D L A' := fun a w hf h' => h a w hf (hA w h')

/-! a slice's value is '.slice a n c' -/
/-- a row that stays as it is -/
def rowO {X : Type} (a : Option Addr) (sz : Nat) (enc : X → List Value) (xs : List X) : Res where
  U := fun b => xs ≠ [] ∧ ∃ ad, a = some ad ∧ ad.block = b
  φ := fun w => ∀ i x, xs[i]? = some x → ∃ b o, a = some ⟨b, o, none⟩ ∧ Cells w b (o + i * sz) (enc x)
  st := by
    intro w w' _ _ _ _ hb h i x hx
    obtain ⟨b, o, rfl, hc⟩ := h i x hx
    exact ⟨b, o, rfl, hc.keep (hb b ⟨fun e => by simp [e] at hx, _, rfl, rfl⟩)⟩
/-- a row of the call's own, that may grow -/
def rowG (e : TypeId) (sz : Nat) (a : Option Addr) (n c : Nat) (l : List Value) : Res where
  U := fun b => some b = (Value.slice a n c).ownBlock
  φ := fun w => w.ownsRow 0 e sz (.slice a n c) n l
  st := by
    intro w w' h1 h2 h3 h4 hb h
    refine ⟨h.1, ?_⟩
    rcases h.2 with hn | ⟨g, cap, cur, hv, hg, hh, rest⟩
    · exact .inl hn
    · refine .inr ⟨g, cap, cur, hv, hg, ?_, rest⟩
      rw [hb g (by rw [hv]; rfl)]; exact hh

theorem rowO.ok_of {X : Type} {a : Option Addr} {sz : Nat} {enc : X → List Value} {xs : List X} {w : World} (hf : ∀ x ∈ xs, enc x ≠ []) (h : (rowO a sz enc xs).φ w) : (rowO a sz enc xs).ok w := by
  refine ⟨h, ?_⟩
  rintro c ⟨hne, ad, rfl, rfl⟩
  cases xs with
  | nil => exact absurd rfl hne
  | cons x xs =>
    obtain ⟨b, o, hb, h1⟩ := h 0 x rfl
    cases hb
    cases he : enc x with
    | nil => exact absurd he (hf x (List.mem_cons_self ..))
    | cons v vs => rw [he] at h1; exact h1.lt
theorem rowO.nil {X : Type} {a : Option Addr} {sz : Nat} {enc : X → List Value} {w : World} : (rowO a sz enc ([] : List X)).ok w := ⟨fun i x h => by simp at h, fun b ⟨h, _⟩ => absurd rfl h⟩
theorem rowO.addr {X : Type} {a : Option Addr} {sz : Nat} {enc : X → List Value} {xs : List X} {w : World} (h : (rowO a sz enc xs).φ w) (hne : 0 < xs.length) : ∃ b o, a = some ⟨b, o, none⟩ := by
  obtain ⟨b, o, hb, _⟩ := h 0 xs[0] (by simp)
  exact ⟨b, o, hb⟩

/-- elements of one size: where the i-th stands among the cells -/
theorem flat_at {X : Type} {sz : Nat} {enc : X → List Value} {xs : List X} (hs : ∀ x ∈ xs, (enc x).length = sz) : ∀ {i : Nat} {x : X}, xs[i]? = some x → ∀ j v, (enc x)[j]? = some v → (xs.flatMap enc)[i * sz + j]? = some v := by
  induction xs with
  | nil => intro i x h; simp at h
  | cons y xs ih =>
    intro i x hx j v hv
    have hy : (enc y).length = sz := hs y (List.mem_cons_self ..)
    cases i with
    | zero =>
      simp at hx; subst hx
      simp only [Nat.zero_mul, Nat.zero_add, List.flatMap_cons]
      rw [List.getElem?_append_left (List.getElem?_eq_some_iff.1 hv).1]; exact hv
    | succ i =>
      simp only [List.flatMap_cons]
      have e : (i + 1) * sz + j = (enc y).length + (i * sz + j) := by rw [hy, Nat.add_mul]; omega
      rw [e, List.getElem?_append_right (by omega), Nat.add_sub_cancel_left]
      exact ih (fun x hx => hs x (List.mem_cons_of_mem _ hx)) (by simpa using hx) j v hv
theorem flat_len {X : Type} {sz : Nat} {enc : X → List Value} {xs : List X} (hs : ∀ x ∈ xs, (enc x).length = sz) : (xs.flatMap enc).length = xs.length * sz := by
  induction xs with
  | nil => simp
  | cons y xs ih => simp [ih (fun x hx => hs x (List.mem_cons_of_mem _ hx)), hs y (List.mem_cons_self ..), Nat.add_mul]; omega

section reads
variable {w₀ : World} {F : Nat → Prop} {M Φ : List Res} {X : Type} {b o sz : Nat} {enc : X → List Value} {xs : List X}
/-- an element of a row -/
theorem ldO (j : Nat) (hj : nth Φ j = some (rowO (some ⟨b, o, none⟩) sz enc xs)) {i : Nat} {x : X} (hx : xs[i]? = some x) : ∀ w, St w₀ F M Φ w → Cells w b (o + i * sz) (enc x) := by
  intro w hA
  obtain ⟨b', o', hb, hc⟩ := (hA.see (r := rowO (some ⟨b, o, none⟩) sz enc xs) j hj) i x hx
  cases hb; exact hc
/-- a cell of an element of a row -/
theorem ldOp (j : Nat) (hj : nth Φ j = some (rowO (some ⟨b, o, none⟩) sz enc xs)) {i k : Nat} {x : X} {v : Value} (hx : xs[i]? = some x) (hv : nth (enc x) k = some v) : ∀ w, St w₀ F M Φ w → Cells w b (o + i * sz + k) [v] := by
  intro w hA
  refine (ldO j hj hx w hA).sub k (fun m u hu => ?_)
  cases m with
  | zero => simp at hu; subst hu; exact nth_get hv
  | succ m => simp at hu
theorem seeAddr {a : Option Addr} (j : Nat) (hj : nth Φ j = some (rowO a sz enc xs)) (hne : 0 < xs.length) : ∀ w, St w₀ F M Φ w → ∃ b o, a = some ⟨b, o, none⟩ :=
  fun _ hA => rowO.addr (hA.see (r := rowO a sz enc xs) j hj) hne
/-- a box is a row -/
theorem bx_rowO {t : TypeId} {l : List Value} {w : World} (hs : ∀ x ∈ xs, (enc x).length = sz) (hl : l = xs.flatMap enc) (h : (bx b t l).φ w) : (rowO (some ⟨b, 0, none⟩) sz enc xs).φ w := by
  intro i x hx
  refine ⟨b, 0, rfl, ?_⟩
  subst hl
  have h' : w.heap[b]? = some (cl t (xs.flatMap enc)) := h
  refine Cells.own h' _ _ (fun j v hv => ?_)
  rw [Nat.zero_add]
  exact flat_at hs hx j v hv
theorem St.rowO_of_bx {t : TypeId} {l : List Value} {w : World} (h : St w₀ F (bx b t l :: M) Φ w) (hs : ∀ x ∈ xs, (enc x).length = sz) (hl : l = xs.flatMap enc) : St w₀ F M (rowO (some ⟨b, 0, none⟩) sz enc xs :: Φ) w := by
  have h1 := h.freeze
  have h2 := h1.imm (bx b t l) (List.mem_cons_self ..)
  refine (h1.subΦ (Ψ := Φ) (fun i hi => List.mem_cons_of_mem _ hi)).addΦ (bx_rowO hs hl h2.1) ?_ ?_
  · rintro c ⟨_, ad, hb, rfl⟩; cases hb; exact h2.2.1 b rfl
  · intro r hr c hc; rintro ⟨_, ad, hb, rfl⟩; cases hb; exact h2.2.2 r hr b hc rfl
theorem rowG.cells {e : TypeId} {a : Option Addr} {n c : Nat} {l : List Value} {w : World} (h : (rowG e sz a n c l).φ w) (hn : 0 < l.length) : ∃ g, a = some ⟨g, 0, none⟩ ∧ Cells w g 0 l := by
  have hr : w.ownsRow 0 e sz (.slice a n c) n l := h
  rcases hr.2 with ⟨_, h0⟩ | ⟨g, cap, cur, hv, _, hh, _, _, _, ht⟩
  · have := hr.1; rw [h0] at this; simp at this; rw [this] at hn; simp at hn
  · have ha : a = some ⟨g, 0, none⟩ := by injection hv
    refine ⟨g, ha, fun j v hv' => ?_⟩
    rw [Nat.zero_add]
    rw [← ht, List.getElem?_take] at hv'
    split at hv'
    · simp only [World.cell?, hh]; simpa using hv'
    · cases hv'
theorem rowG.rowO {e : TypeId} {a : Option Addr} {n c : Nat} {l : List Value} {w : World} (hsz : 0 < sz) (hs : ∀ x ∈ xs, (enc x).length = sz) (hl : l = xs.flatMap enc) (h : (rowG e sz a n c l).φ w) : (rowO a sz enc xs).φ w := by
  intro i x hx
  have hlen : i < xs.length := (List.getElem?_eq_some_iff.1 hx).1
  have hpos : 0 < l.length := by rw [hl, flat_len hs]; exact Nat.mul_pos (by omega) hsz
  obtain ⟨g, rfl, hc⟩ := rowG.cells h hpos
  refine ⟨g, 0, rfl, ?_⟩
  have := hc.sub (us := enc x) (i * sz) (fun j v hv => by rw [hl]; exact flat_at hs hx j v hv)
  exact this
theorem St.rowO_of_rowG {e : TypeId} {a : Option Addr} {n c : Nat} {l : List Value} {w : World} (h : St w₀ F (rowG e sz a n c l :: M) Φ w) (hsz : 0 < sz) (hs : ∀ x ∈ xs, (enc x).length = sz) (hl : l = xs.flatMap enc) : St w₀ F M (rowO a sz enc xs :: Φ) w := by
  have h1 := h.freeze
  have h2 := h1.imm (rowG e sz a n c l) (List.mem_cons_self ..)
  refine (h1.subΦ (Ψ := Φ) (fun i hi => List.mem_cons_of_mem _ hi)).addΦ (rowG.rowO hsz hs hl h2.1) ?_ ?_
  · rintro c ⟨_, ad, rfl, rfl⟩; exact h2.2.1 ad.block rfl
  · intro r hr c hc; rintro ⟨_, ad, rfl, rfl⟩; exact h2.2.2 r hr ad.block hc rfl
/-- the nil slice -/
theorem St.newG {e : TypeId} {w : World} (h : St w₀ F M Φ w) : St w₀ F (rowG e sz none 0 0 [] :: M) Φ w := by
  refine ⟨h.eff, ?_, .cons (fun _ _ b hb => by simp [rowG, Value.ownBlock] at hb) h.apart, ?_⟩
  · intro r hr
    rcases List.mem_cons.1 hr with rfl | hr
    · exact ⟨World.ownsRow_nil w 0 e sz, fun b hb => by simp [rowG, Value.ownBlock] at hb⟩
    · exact h.own_ r hr
  · intro i hi
    obtain ⟨a, b, c⟩ := h.imm i hi
    refine ⟨a, b, fun r hr => ?_⟩
    rcases List.mem_cons.1 hr with rfl | hr
    · intro b hb; simp [rowG, Value.ownBlock] at hb
    · exact c r hr
end reads

/-! literals -/
theorem fold_put (off : Nat) : ∀ (cs : List Value) (j : Nat) (arr : Array Value), off + j + cs.length ≤ arr.size →
    ((cs.zipIdx j).foldl (fun (a : Array Value) (x : Value × Nat) => a.setIfInBounds (off + x.2) x.1) arr).toList = arr.toList.take (off + j) ++ cs ++ arr.toList.drop (off + j + cs.length)
  | [], j, arr, h => by simp
  | c :: cs, j, arr, h => by
    simp only [List.zipIdx_cons, List.foldl_cons, List.length_cons] at h ⊢
    rw [fold_put off cs (j + 1) _ (by simp; omega)]
    have hlt : off + j < arr.toList.length := by simp; omega
    simp only [Array.toList_setIfInBounds]
    rw [show off + (j + 1) = off + j + 1 by omega, List.take_succ_eq_append_getElem (by simpa using hlt)]
    simp only [List.getElem_set_self, List.append_assoc, List.singleton_append]
    rw [List.take_set_of_le (Nat.le_refl _), List.drop_set_of_lt (by omega)]
    congr 3; omega

theorem fill_flat (sz : Nat) : ∀ (vs : List Value) (vss : List (List Value)) (k : Nat) (arr : Array Value), vs.map Value.cells = vss.map List.toArray → (∀ l ∈ vss, l.length = sz) → arr.size = (k + vs.length) * sz →
    ∃ out : Array Value, Instr.fill (fun i => some (i * sz, sz)) arr ((vs.zipIdx k).map fun x => (x.2, x.1)) = some out ∧ out.toList = arr.toList.take (k * sz) ++ vss.flatten
  | [], [], k, arr, _, _, hs => ⟨arr, rfl, by simp at hs; simp [hs, List.take_of_length_le]⟩
  | v :: vs, l :: vss, k, arr, hv, hl, hs => by
    simp only [List.map_cons, List.cons.injEq] at hv
    have hlz : l.length = sz := hl l (List.mem_cons_self ..)
    have hvc : v.cells.size = sz := by rw [hv.1]; simpa using hlz
    simp only [List.zipIdx_cons, List.map_cons, Instr.fill, hvc]
    have hk : ¬ (k * sz + sz > arr.size) := by rw [hs]; simp [Nat.add_mul]
    simp only [ne_eq, not_true_eq_false, decide_false, hk, Bool.or_self, Bool.false_eq_true, if_false]
    have hfold : ((v.cells.zipIdx.foldl (fun cs x => cs.setIfInBounds (k * sz + x.2) x.1) arr)).toList = arr.toList.take (k * sz) ++ l ++ arr.toList.drop (k * sz + sz) := by
      have := fold_put (k * sz) l 0 arr (by rw [hs, hlz]; simp [Nat.add_mul])
      simp only [Nat.add_zero, hlz] at this
      rw [← this, hv.1]
      rw [← Array.foldl_toList]
      simp
    obtain ⟨out, h1, h2⟩ := fill_flat sz vs vss (k + 1) (v.cells.zipIdx.foldl (fun cs x => cs.setIfInBounds (k * sz + x.2) x.1) arr) hv.2 (fun l hl' => hl l (List.mem_cons_of_mem _ hl')) (by
      rw [← Array.length_toList, hfold]; simp [hlz, hs, Nat.add_mul]; omega)
    refine ⟨out, h1, ?_⟩
    rw [h2, hfold]
    simp only [List.flatten_cons]
    rw [← List.append_assoc]
    congr 1
    rw [List.take_append_of_le_length (by simp [hlz, hs, Nat.add_mul]), List.take_of_length_le (by simp [hlz, hs, Nat.add_mul])]
  | [], _ :: _, _, _, hv, _, _ => by simp at hv
  | _ :: _, [], _, _, hv, _, _ => by simp at hv

section lits
variable {r : Option Nat} {P : Program} {N : Nat} {ops : Array Oper} {Q : Exit → Act → World → Prop} {rest : List Oper} {D : List Deferred} {L : List (Nat × Value)} {o : Oper} {w₀ : World} {F : Nat → Prop} {M M' Φ : List Res} {d : Nat}

/-- a slice literal, all of its elements given in their order -/
theorem J.lit {t e by_ : Nat} {zs : List Value} {xs : List Operand} {vs : List Value} {vss : List (List Value)} {n : Nat} (hg : o.guard = none) (hd : o.dst = some d) (hn : okd d N L = true) {parts : List (Nat × Operand)} (ho : o.op = .buildSlice t n parts.toArray)
    (hp : parts = (xs.zipIdx.map fun x => (x.2, x.1))) (hlen : n = xs.length) (ht : P.underlying t = some (.slice e)) (hi : Inf P e zs by_) (hx : Evs L xs vs) (hv : vs.map Value.cells = vss.map List.toArray) (hsz : ∀ l ∈ vss, l.length = zs.length) (hne : zs ≠ []) (h1 : xs ≠ []) (h2 : n * zs.length ≤ 16777216)
    (k : ∀ b, w₀.heap.size ≤ b → J r P N ops Q rest D ((d, .slice (some ⟨b, 0, none⟩) n n) :: L) (St w₀ F (bx b e vss.flatten :: M) Φ)) : J r P N ops Q (o :: rest) D L (St w₀ F M Φ) := by
  refine J.e (X := { b : Nat // w₀.heap.size ≤ b }) (V := fun b => .slice (some ⟨b.1, 0, none⟩) n n) (B := fun b => St w₀ F (bx b.1 e vss.flatten :: M) Φ) hg hd hn (by rw [ho]; rfl) ?_ (fun b => k b.1 b.2)
  intro N D a w o' ho' _ hf hA
  obtain ⟨i, z, q1, q2, q3, q4, _⟩ := hi
  have hvs := hx N D a hf
  have hvl : vs.length = xs.length := by rw [← hvs]; simp
  have hpos : 0 < zs.length := List.length_pos_iff.2 hne
  have hxpos : 0 < xs.length := List.length_pos_iff.2 h1
  obtain ⟨out, f1, f2⟩ := fill_flat zs.length vs vss 0 ((Array.range (n * i.size)).map (z.cells[· % z.cells.size]!)) hv hsz (by simp [q4, hlen, hvl])
  have f1' : Instr.fill (fun i => some (i * zs.length, zs.length)) ((Array.range (n * i.size)).map (z.cells[· % z.cells.size]!)) ((parts.map fun x => (x.1, a.eval x.2))) = some out := by
    rw [← f1, hp, ← hvs]
    congr 1
    simp only [List.map_map, List.zipIdx_map]
    rfl
  have hout : out = (vss.flatten).toArray := by
    apply Array.ext'
    rw [f2]; simp
  have hmul : ¬ (n * i.size > 2 ^ 24) := by rw [q4]; omega
  have hz0 : ¬ (n * i.size = 0) := by rw [q4, hlen]; exact Nat.ne_of_gt (Nat.mul_pos hxpos hpos)
  refine ⟨⟨w.heap.size, hA.le⟩, w.alloc (cl e vss.flatten), ?_, hA.extM (Eff.alloc w _) (heap_alloc_new w _) ?_⟩
  · have hparts : (parts.toArray.map fun x => match x with | (i, x) => (i, a.eval x)).toList = parts.map fun x => (x.1, a.eval x.2) := by simp
    simp only [execOp, ho', ho, Instr.buildSlice]
    simp only [Sem.run_bind, run_underlying ht, Result.andThen_ok, sizeOf, typeInfo, run_program, q1, Sem.run_pure, zeroValue, q2, hmul, hz0, if_false, hparts]
    rw [q4] at f1' ⊢
    rw [f1']
    simp [newRow, hout]
  · intro b hb; simp only [own] at hb; subst hb; simp

/-- append(s, xs..) to a slice of the call's own -/
theorem J.append {t e by_ : Nat} {zs : List Value} {x y : Operand} {a a₂ : Option Addr} {n c m c₂ : Nat} {l news : List Value} {Mn : Option Addr → Nat → List Res} (hg : o.guard = none) (hd : o.dst = some d) (hn : okd d N L = true)
    (ho : o.op = .call { callee := .builtin .append, args := [x, y].toArray, argTypes := #[t, t] }) (ht : P.underlying t = some (.slice e)) (hi : Inf P e zs by_) (hne : zs ≠ [])
    (hx : Ev L x (.slice a n c)) (hy : Ev L y (.slice a₂ m c₂)) (ha : ∀ w, St w₀ F M Φ w → ∃ b₂ o₂, a₂ = some ⟨b₂, o₂, none⟩ ∧ Cells w b₂ o₂ news) (hl : news.length = m * zs.length) (h1 : ∀ u ∈ news, u.oneCell' = true)
    (h63 : n + m ≤ 9223372036854775807) (hbytes : (n + m) * by_ ≤ 140737488355328) (hu : ∀ a' c', Upd M (rowG e zs.length a n c l) (Mn a' c') (rowG e zs.length a' (n + m) c' (l ++ news)))
    (k : ∀ a' c', J r P N ops Q rest D ((d, .slice a' (n + m) c') :: L) (St w₀ F (Mn a' c') Φ)) : J r P N ops Q (o :: rest) D L (St w₀ F M Φ) := by
  refine J.e (X := Option Addr × Nat) (V := fun p => .slice p.1 (n + m) p.2) (B := fun p => St w₀ F (Mn p.1 p.2) Φ) hg hd hn (by rw [ho]; rfl) ?_ (fun p => k p.1 p.2)
  intro N D f w o' ho' _ hf hA
  obtain ⟨i, z, q1, q2, q3, q4, q5⟩ := hi
  obtain ⟨b₂, o₂, rfl, hc⟩ := ha w hA
  obtain ⟨M0, hp, _⟩ := (hu a c).perm
  have hown : w.ownsRow 0 e i.size (.slice a n c) n l := by
    rw [q4]; exact (hA.own_ _ (hp.mem_iff.2 (List.mem_cons_self ..))).1
  obtain ⟨v', w', hr, h2, h3, _⟩ := run_append_own (P := P) w 0 t o'.type e i z i.size i.bytes ht q1 q2 rfl rfl (by rw [q3, q4]; simp) (by rw [q4]; exact List.length_pos_iff.2 hne) (.slice a n c) n l hown
    ⟨b₂, o₂, none⟩ m c₂ news (by rw [q4]; exact hl) (fun j u hu => by rw [Addr.add_lit]; exact hc j u hu) h1 (by simpa [maxLen] using h63) (by rw [q5]; exact hbytes) (Nat.zero_le _)
  have hv' : ∃ a' c', v' = .slice a' (n + m) c' := by
    rcases h2.2 with ⟨rfl, h0⟩ | ⟨g, cap, _, rfl, _⟩
    · exact ⟨none, 0, by rw [h0]⟩
    · exact ⟨_, _, rfl⟩
  obtain ⟨a', c', rfl⟩ := hv'
  rw [q4] at h2
  have hdr : w.drawn ≤ w'.drawn := by
    have hsm : ((n + m : Nat) : Int) ≤ 9223372036854775807 := by omega
    have hnews : ∀ j u, news[j]? = some u → w.cell? ((⟨b₂, o₂, none⟩ : Addr).add j) = some u := fun j u hu => by rw [Addr.add_lit]; exact hc j u hu
    have hnl : news.length = m * i.size := by rw [q4]; exact hl
    rcases hown.2 with ⟨hnil, h0⟩ | ⟨g, cap, cur, hv, hg0, hg, hnc, hcm, hcs, htake⟩
    · cases hnil
      by_cases hm : m = 0
      · subst hm
        have : (Builtin.append_ #[t, t] o'.type #[.slice none 0 0, .slice (some ⟨b₂, o₂, none⟩) 0 c₂]).run P w = .ok (.slice none 0 0) w := by
          simp [Builtin.append_, run_underlying ht, sizeOf, typeInfo, q1, Builtin.lenOf, Builtin.firstCells, loadCells, loadCellsFrom]
        rw [this] at hr
        injection hr with _ e2
        exact Nat.le_of_eq (by rw [← e2])
      · have hr2 := run_append_nil (P := P) w t o'.type e i z ht q1 q2 ⟨b₂, o₂, none⟩ m c₂ news hnl hnews (by omega) (by omega) (by rw [q5]; simp only [Nat.zero_add] at hbytes; omega)
        rw [hr2] at hr
        injection hr with _ e2
        exact Nat.le_trans (Nat.le_succ _) (Nat.le_of_eq (by rw [← e2]; rfl))
    · injection hv with e1 e2 e3
      subst e1; subst e3
      by_cases hroom : n + m ≤ c
      · have hfit : n * i.size + news.length ≤ cur.size := by rw [hnl, hcs, ← Nat.add_mul]; exact Nat.mul_le_mul_right _ hroom
        have hr2 := run_append_room (P := P) w t o'.type e i ht q1 g n c cur hg ⟨b₂, o₂, none⟩ m c₂ news hnl hnews h1 hroom hfit
        rw [hr2] at hr
        injection hr with _ e2
        exact Nat.le_of_eq (by rw [← e2]; rfl)
      · have hr2 := run_append_grow (P := P) w t o'.type e i z ht q1 q2 ⟨g, 0, none⟩ n c l hown.1 (hown.cells (g := g) rfl) ⟨b₂, o₂, none⟩ m c₂ news hnl hnews (by omega) hsm (growslice_fits (by omega) (by rw [q5]; exact hbytes))
        rw [hr2] at hr
        injection hr with _ e2
        exact Nat.le_trans (Nat.le_succ _) (Nat.le_of_eq (by rw [← e2]; rfl))
  refine ⟨(a', c'), w', ?_, hA.upd (hu a' c') ((Eff.of_grownBy h3 hdr).mono (fun x _ hx => hx)) h2 ?_⟩
  · simp [execOp, ho', ho, resolve, invoke, builtin, hx N D f hf, hy N D f hf, hr]
  · intro b hb
    have hlt := (h2.lt b hb.symm)
    refine ⟨?_, hlt.2⟩
    by_cases hbw : b < w.heap.size
    · -- an old block: it is the former one
      left
      rcases Classical.em (some b = (Value.slice a n c).ownBlock) with h | h
      · exact h
      · exfalso
        have hsm : ((n + m : Nat) : Int) ≤ 9223372036854775807 := by omega
        have hnews : ∀ j u, news[j]? = some u → w.cell? ((⟨b₂, o₂, none⟩ : Addr).add j) = some u := fun j u hu => by rw [Addr.add_lit]; exact hc j u hu
        have hnl : news.length = m * i.size := by rw [q4]; exact hl
        rcases hown.2 with ⟨hnil, h0⟩ | ⟨g, cap, cur, hv, hg0, hg, hnc, hcm, hcs, htake⟩
        · cases hnil
          by_cases hm : m = 0
          · subst hm
            have hn0 : news = [] := List.eq_nil_of_length_eq_zero (by simpa using hl)
            subst hn0
            have : (Builtin.append_ #[t, t] o'.type #[.slice none 0 0, .slice (some ⟨b₂, o₂, none⟩) 0 c₂]).run P w = .ok (.slice none 0 0) w := by
              simp [Builtin.append_, run_underlying ht, sizeOf, typeInfo, q1, Builtin.lenOf, Builtin.firstCells, loadCells, loadCellsFrom]
            rw [this] at hr
            injection hr with e1 _
            injection e1 with e1 _
            have hb' : some b = (Value.slice a' _ c').ownBlock := hb
            simp [Value.ownBlock, ← e1] at hb'
          · have hr2 := run_append_nil (P := P) w t o'.type e i z ht q1 q2 ⟨b₂, o₂, none⟩ m c₂ news hnl hnews (by omega) (by omega) (by rw [q5]; simp only [Nat.zero_add] at hbytes; omega)
            rw [hr2] at hr
            injection hr with e1 _
            injection e1 with e1 _
            have hb' : some b = (Value.slice a' _ c').ownBlock := hb
            simp [Value.ownBlock, ← e1] at hb'
            omega
        · injection hv with e1 e2 e3
          subst e1; subst e3
          by_cases hroom : n + m ≤ c
          · have hfit : n * i.size + news.length ≤ cur.size := by rw [hnl, hcs, ← Nat.add_mul]; exact Nat.mul_le_mul_right _ hroom
            have hr2 := run_append_room (P := P) w t o'.type e i ht q1 g n c cur hg ⟨b₂, o₂, none⟩ m c₂ news hnl hnews h1 hroom hfit
            rw [hr2] at hr
            injection hr with e1 _
            injection e1 with e1 _
            have hb' : some b = (Value.slice a' _ c').ownBlock := hb
            simp [Value.ownBlock, ← e1] at hb' h
            exact h hb'
          · have hr2 := run_append_grow (P := P) w t o'.type e i z ht q1 q2 ⟨g, 0, none⟩ n c l hown.1 (hown.cells (g := g) rfl) ⟨b₂, o₂, none⟩ m c₂ news hnl hnews (by omega) hsm (growslice_fits (by omega) (by rw [q5]; exact hbytes))
            rw [hr2] at hr
            injection hr with e1 _
            injection e1 with e1 _
            have hb' : some b = (Value.slice a' _ c').ownBlock := hb
            simp [Value.ownBlock, ← e1] at hb'
            omega
    · right; omega
end lits
end Go.J
namespace Go.J
open Go Go.RowKit
theorem Sel.refl {L : List (Nat × Value)} : Sel L L := fun _ h => h
section
variable {r : Option Nat} {P : Program} {N : Nat} {Q : Exit → Act → World → Prop} {D : List Deferred} {K : List (Nat × Value)} {A : World → Prop} {c x y : Code} {G : Type}
theorem C.loop_0  (Ag : G → World → Prop) (μ : G → Nat) (g₀ : G) (h₀ : ∀ w, A w → Ag g₀ w)
    (round : ∀ g, C r P N c (Exit.then (fun a w => ∃ g', FOK N D (K) a ∧ Ag g' w ∧ μ g' < μ g) Q) D (K) (Ag g)) : C r P N (.loop c) Q D (K) A := by
  exact C.loop (fun g => K) Ag μ g₀ Sel.refl h₀ round
theorem C.cut_0 {L : List (Nat × Value)}  (_sK : Sel L K) (Ag : G → World → Prop)
    (h : C r P N x (Exit.then (fun a w => ∃ g, FOK N D (K) a ∧ Ag g w) Q) D L A) (k : ∀ g, C r P N y Q D (K) (Ag g)) : C r P N (.seq x y) Q D L A := C.cut (fun g => K) Ag h k
theorem C.loop_1 {d1 : Nat} {v1 : Value} (f1 : G → Value) (Ag : G → World → Prop) (μ : G → Nat) (g₀ : G) (e1 : v1 = f1 g₀) (h₀ : ∀ w, A w → Ag g₀ w)
    (round : ∀ g, C r P N c (Exit.then (fun a w => ∃ g', FOK N D ((d1, f1 g') :: K) a ∧ Ag g' w ∧ μ g' < μ g) Q) D ((d1, f1 g) :: K) (Ag g)) : C r P N (.loop c) Q D ((d1, v1) :: K) A := by
  subst e1; exact C.loop (fun g => (d1, f1 g) :: K) Ag μ g₀ Sel.refl h₀ round
theorem C.cut_1 {L : List (Nat × Value)} {d1 : Nat} (f1 : G → Value) (_sK : Sel L K) (Ag : G → World → Prop)
    (h : C r P N x (Exit.then (fun a w => ∃ g, FOK N D ((d1, f1 g) :: K) a ∧ Ag g w) Q) D L A) (k : ∀ g, C r P N y Q D ((d1, f1 g) :: K) (Ag g)) : C r P N (.seq x y) Q D L A := C.cut (fun g => (d1, f1 g) :: K) Ag h k
theorem C.loop_2 {d1 d2 : Nat} {v1 v2 : Value} (f1 : G → Value) (f2 : G → Value) (Ag : G → World → Prop) (μ : G → Nat) (g₀ : G) (e1 : v1 = f1 g₀) (e2 : v2 = f2 g₀) (h₀ : ∀ w, A w → Ag g₀ w)
    (round : ∀ g, C r P N c (Exit.then (fun a w => ∃ g', FOK N D ((d1, f1 g') :: (d2, f2 g') :: K) a ∧ Ag g' w ∧ μ g' < μ g) Q) D ((d1, f1 g) :: (d2, f2 g) :: K) (Ag g)) : C r P N (.loop c) Q D ((d1, v1) :: (d2, v2) :: K) A := by
  subst e1; subst e2; exact C.loop (fun g => (d1, f1 g) :: (d2, f2 g) :: K) Ag μ g₀ Sel.refl h₀ round
theorem C.cut_2 {L : List (Nat × Value)} {d1 d2 : Nat} (f1 : G → Value) (f2 : G → Value) (_sK : Sel L K) (Ag : G → World → Prop)
    (h : C r P N x (Exit.then (fun a w => ∃ g, FOK N D ((d1, f1 g) :: (d2, f2 g) :: K) a ∧ Ag g w) Q) D L A) (k : ∀ g, C r P N y Q D ((d1, f1 g) :: (d2, f2 g) :: K) (Ag g)) : C r P N (.seq x y) Q D L A := C.cut (fun g => (d1, f1 g) :: (d2, f2 g) :: K) Ag h k
theorem C.loop_3 {d1 d2 d3 : Nat} {v1 v2 v3 : Value} (f1 : G → Value) (f2 : G → Value) (f3 : G → Value) (Ag : G → World → Prop) (μ : G → Nat) (g₀ : G) (e1 : v1 = f1 g₀) (e2 : v2 = f2 g₀) (e3 : v3 = f3 g₀) (h₀ : ∀ w, A w → Ag g₀ w)
    (round : ∀ g, C r P N c (Exit.then (fun a w => ∃ g', FOK N D ((d1, f1 g') :: (d2, f2 g') :: (d3, f3 g') :: K) a ∧ Ag g' w ∧ μ g' < μ g) Q) D ((d1, f1 g) :: (d2, f2 g) :: (d3, f3 g) :: K) (Ag g)) : C r P N (.loop c) Q D ((d1, v1) :: (d2, v2) :: (d3, v3) :: K) A := by
  subst e1; subst e2; subst e3; exact C.loop (fun g => (d1, f1 g) :: (d2, f2 g) :: (d3, f3 g) :: K) Ag μ g₀ Sel.refl h₀ round
theorem C.cut_3 {L : List (Nat × Value)} {d1 d2 d3 : Nat} (f1 : G → Value) (f2 : G → Value) (f3 : G → Value) (_sK : Sel L K) (Ag : G → World → Prop)
    (h : C r P N x (Exit.then (fun a w => ∃ g, FOK N D ((d1, f1 g) :: (d2, f2 g) :: (d3, f3 g) :: K) a ∧ Ag g w) Q) D L A) (k : ∀ g, C r P N y Q D ((d1, f1 g) :: (d2, f2 g) :: (d3, f3 g) :: K) (Ag g)) : C r P N (.seq x y) Q D L A := C.cut (fun g => (d1, f1 g) :: (d2, f2 g) :: (d3, f3 g) :: K) Ag h k
theorem C.loop_4 {d1 d2 d3 d4 : Nat} {v1 v2 v3 v4 : Value} (f1 : G → Value) (f2 : G → Value) (f3 : G → Value) (f4 : G → Value) (Ag : G → World → Prop) (μ : G → Nat) (g₀ : G) (e1 : v1 = f1 g₀) (e2 : v2 = f2 g₀) (e3 : v3 = f3 g₀) (e4 : v4 = f4 g₀) (h₀ : ∀ w, A w → Ag g₀ w)
    (round : ∀ g, C r P N c (Exit.then (fun a w => ∃ g', FOK N D ((d1, f1 g') :: (d2, f2 g') :: (d3, f3 g') :: (d4, f4 g') :: K) a ∧ Ag g' w ∧ μ g' < μ g) Q) D ((d1, f1 g) :: (d2, f2 g) :: (d3, f3 g) :: (d4, f4 g) :: K) (Ag g)) : C r P N (.loop c) Q D ((d1, v1) :: (d2, v2) :: (d3, v3) :: (d4, v4) :: K) A := by
  subst e1; subst e2; subst e3; subst e4; exact C.loop (fun g => (d1, f1 g) :: (d2, f2 g) :: (d3, f3 g) :: (d4, f4 g) :: K) Ag μ g₀ Sel.refl h₀ round
theorem C.cut_4 {L : List (Nat × Value)} {d1 d2 d3 d4 : Nat} (f1 : G → Value) (f2 : G → Value) (f3 : G → Value) (f4 : G → Value) (_sK : Sel L K) (Ag : G → World → Prop)
    (h : C r P N x (Exit.then (fun a w => ∃ g, FOK N D ((d1, f1 g) :: (d2, f2 g) :: (d3, f3 g) :: (d4, f4 g) :: K) a ∧ Ag g w) Q) D L A) (k : ∀ g, C r P N y Q D ((d1, f1 g) :: (d2, f2 g) :: (d3, f3 g) :: (d4, f4 g) :: K) (Ag g)) : C r P N (.seq x y) Q D L A := C.cut (fun g => (d1, f1 g) :: (d2, f2 g) :: (d3, f3 g) :: (d4, f4 g) :: K) Ag h k
theorem C.loop_5 {d1 d2 d3 d4 d5 : Nat} {v1 v2 v3 v4 v5 : Value} (f1 : G → Value) (f2 : G → Value) (f3 : G → Value) (f4 : G → Value) (f5 : G → Value) (Ag : G → World → Prop) (μ : G → Nat) (g₀ : G) (e1 : v1 = f1 g₀) (e2 : v2 = f2 g₀) (e3 : v3 = f3 g₀) (e4 : v4 = f4 g₀) (e5 : v5 = f5 g₀) (h₀ : ∀ w, A w → Ag g₀ w)
    (round : ∀ g, C r P N c (Exit.then (fun a w => ∃ g', FOK N D ((d1, f1 g') :: (d2, f2 g') :: (d3, f3 g') :: (d4, f4 g') :: (d5, f5 g') :: K) a ∧ Ag g' w ∧ μ g' < μ g) Q) D ((d1, f1 g) :: (d2, f2 g) :: (d3, f3 g) :: (d4, f4 g) :: (d5, f5 g) :: K) (Ag g)) : C r P N (.loop c) Q D ((d1, v1) :: (d2, v2) :: (d3, v3) :: (d4, v4) :: (d5, v5) :: K) A := by
  subst e1; subst e2; subst e3; subst e4; subst e5; exact C.loop (fun g => (d1, f1 g) :: (d2, f2 g) :: (d3, f3 g) :: (d4, f4 g) :: (d5, f5 g) :: K) Ag μ g₀ Sel.refl h₀ round
theorem C.cut_5 {L : List (Nat × Value)} {d1 d2 d3 d4 d5 : Nat} (f1 : G → Value) (f2 : G → Value) (f3 : G → Value) (f4 : G → Value) (f5 : G → Value) (_sK : Sel L K) (Ag : G → World → Prop)
    (h : C r P N x (Exit.then (fun a w => ∃ g, FOK N D ((d1, f1 g) :: (d2, f2 g) :: (d3, f3 g) :: (d4, f4 g) :: (d5, f5 g) :: K) a ∧ Ag g w) Q) D L A) (k : ∀ g, C r P N y Q D ((d1, f1 g) :: (d2, f2 g) :: (d3, f3 g) :: (d4, f4 g) :: (d5, f5 g) :: K) (Ag g)) : C r P N (.seq x y) Q D L A := C.cut (fun g => (d1, f1 g) :: (d2, f2 g) :: (d3, f3 g) :: (d4, f4 g) :: (d5, f5 g) :: K) Ag h k
theorem C.loop_6 {d1 d2 d3 d4 d5 d6 : Nat} {v1 v2 v3 v4 v5 v6 : Value} (f1 : G → Value) (f2 : G → Value) (f3 : G → Value) (f4 : G → Value) (f5 : G → Value) (f6 : G → Value) (Ag : G → World → Prop) (μ : G → Nat) (g₀ : G) (e1 : v1 = f1 g₀) (e2 : v2 = f2 g₀) (e3 : v3 = f3 g₀) (e4 : v4 = f4 g₀) (e5 : v5 = f5 g₀) (e6 : v6 = f6 g₀) (h₀ : ∀ w, A w → Ag g₀ w)
    (round : ∀ g, C r P N c (Exit.then (fun a w => ∃ g', FOK N D ((d1, f1 g') :: (d2, f2 g') :: (d3, f3 g') :: (d4, f4 g') :: (d5, f5 g') :: (d6, f6 g') :: K) a ∧ Ag g' w ∧ μ g' < μ g) Q) D ((d1, f1 g) :: (d2, f2 g) :: (d3, f3 g) :: (d4, f4 g) :: (d5, f5 g) :: (d6, f6 g) :: K) (Ag g)) : C r P N (.loop c) Q D ((d1, v1) :: (d2, v2) :: (d3, v3) :: (d4, v4) :: (d5, v5) :: (d6, v6) :: K) A := by
  subst e1; subst e2; subst e3; subst e4; subst e5; subst e6; exact C.loop (fun g => (d1, f1 g) :: (d2, f2 g) :: (d3, f3 g) :: (d4, f4 g) :: (d5, f5 g) :: (d6, f6 g) :: K) Ag μ g₀ Sel.refl h₀ round
theorem C.cut_6 {L : List (Nat × Value)} {d1 d2 d3 d4 d5 d6 : Nat} (f1 : G → Value) (f2 : G → Value) (f3 : G → Value) (f4 : G → Value) (f5 : G → Value) (f6 : G → Value) (_sK : Sel L K) (Ag : G → World → Prop)
    (h : C r P N x (Exit.then (fun a w => ∃ g, FOK N D ((d1, f1 g) :: (d2, f2 g) :: (d3, f3 g) :: (d4, f4 g) :: (d5, f5 g) :: (d6, f6 g) :: K) a ∧ Ag g w) Q) D L A) (k : ∀ g, C r P N y Q D ((d1, f1 g) :: (d2, f2 g) :: (d3, f3 g) :: (d4, f4 g) :: (d5, f5 g) :: (d6, f6 g) :: K) (Ag g)) : C r P N (.seq x y) Q D L A := C.cut (fun g => (d1, f1 g) :: (d2, f2 g) :: (d3, f3 g) :: (d4, f4 g) :: (d5, f5 g) :: (d6, f6 g) :: K) Ag h k
theorem C.loop_7 {d1 d2 d3 d4 d5 d6 d7 : Nat} {v1 v2 v3 v4 v5 v6 v7 : Value} (f1 : G → Value) (f2 : G → Value) (f3 : G → Value) (f4 : G → Value) (f5 : G → Value) (f6 : G → Value) (f7 : G → Value) (Ag : G → World → Prop) (μ : G → Nat) (g₀ : G) (e1 : v1 = f1 g₀) (e2 : v2 = f2 g₀) (e3 : v3 = f3 g₀) (e4 : v4 = f4 g₀) (e5 : v5 = f5 g₀) (e6 : v6 = f6 g₀) (e7 : v7 = f7 g₀) (h₀ : ∀ w, A w → Ag g₀ w)
    (round : ∀ g, C r P N c (Exit.then (fun a w => ∃ g', FOK N D ((d1, f1 g') :: (d2, f2 g') :: (d3, f3 g') :: (d4, f4 g') :: (d5, f5 g') :: (d6, f6 g') :: (d7, f7 g') :: K) a ∧ Ag g' w ∧ μ g' < μ g) Q) D ((d1, f1 g) :: (d2, f2 g) :: (d3, f3 g) :: (d4, f4 g) :: (d5, f5 g) :: (d6, f6 g) :: (d7, f7 g) :: K) (Ag g)) : C r P N (.loop c) Q D ((d1, v1) :: (d2, v2) :: (d3, v3) :: (d4, v4) :: (d5, v5) :: (d6, v6) :: (d7, v7) :: K) A := by
  subst e1; subst e2; subst e3; subst e4; subst e5; subst e6; subst e7; exact C.loop (fun g => (d1, f1 g) :: (d2, f2 g) :: (d3, f3 g) :: (d4, f4 g) :: (d5, f5 g) :: (d6, f6 g) :: (d7, f7 g) :: K) Ag μ g₀ Sel.refl h₀ round
theorem C.cut_7 {L : List (Nat × Value)} {d1 d2 d3 d4 d5 d6 d7 : Nat} (f1 : G → Value) (f2 : G → Value) (f3 : G → Value) (f4 : G → Value) (f5 : G → Value) (f6 : G → Value) (f7 : G → Value) (_sK : Sel L K) (Ag : G → World → Prop)
    (h : C r P N x (Exit.then (fun a w => ∃ g, FOK N D ((d1, f1 g) :: (d2, f2 g) :: (d3, f3 g) :: (d4, f4 g) :: (d5, f5 g) :: (d6, f6 g) :: (d7, f7 g) :: K) a ∧ Ag g w) Q) D L A) (k : ∀ g, C r P N y Q D ((d1, f1 g) :: (d2, f2 g) :: (d3, f3 g) :: (d4, f4 g) :: (d5, f5 g) :: (d6, f6 g) :: (d7, f7 g) :: K) (Ag g)) : C r P N (.seq x y) Q D L A := C.cut (fun g => (d1, f1 g) :: (d2, f2 g) :: (d3, f3 g) :: (d4, f4 g) :: (d5, f5 g) :: (d6, f6 g) :: (d7, f7 g) :: K) Ag h k
theorem X.nx {L : List (Nat × Value)} {Lg : G → List (Nat × Value)} {Ag : G → World → Prop} {μ : G → Nat} {m : Nat} (g' : G) (s : Sel L (Lg g')) (hA : ∀ w, A w → Ag g' w) (hμ : μ g' < m) :
    X N .normal (Exit.then (fun a w => ∃ g', FOK N D (Lg g') a ∧ Ag g' w ∧ μ g' < m) Q) D L A := fun _ w hf h => ⟨g', hf.sel s, hA w h, hμ⟩
end
/-- keys and numbers -/
theorem get_lt {X : Type} {xs : List X} {i : Nat} (h : i < xs.length) : ∃ x, xs[i]? = some x := ⟨_, List.getElem?_eq_getElem h⟩
theorem take_succ_all {X : Type} {p : X → Prop} {xs : List X} {i : Nat} {x : X} (hx : xs[i]? = some x) (h : ∀ s ∈ xs.take i, p s) (hp : p x) : ∀ s ∈ xs.take (i + 1), p s := by
  intro s hs
  have hi := (List.getElem?_eq_some_iff.1 hx)
  obtain ⟨hlt, he⟩ := hi
  rw [List.take_succ_eq_append_getElem hlt, he] at hs
  rcases List.mem_append.1 hs with h1 | h1
  · exact h s h1
  · simp at h1; subst h1; exact hp
end Go.J
