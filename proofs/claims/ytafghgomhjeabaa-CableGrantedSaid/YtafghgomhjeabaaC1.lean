/- The cable in plain Lean. The order in which nodes are taken, in plain Lean. What is granted, in plain Lean. DERIVED: THE SHELF's CONTRACTS AT THIS DUMP, IN PLAIN WORDS (tools/lay-plain.mjs out of '@N@LaySoft0.lean', which tools/lay-shelf.mjs wrote): THE SAME DECLARATIONS UNDER THE SAME NAMES: 'import', 'namespace', 'open', 'def', 'theorem' AND NOTHING ELSE: no command of the shelf's: FOR A HAND-IN. Each laying: the table of numbers ('.._ren') and one theorem, a field a fact of the dump's own or the kernel's comparison; each contract: ONE APPLICATION. The subtree of a node, in plain Lean. -/
import Derived.Test.YtafghgomhjeabaaJ2
import Derived.Test.YtafghgomhjeabaaProg
import Derived.Shelf.Sort.Plain
import Derived.Shelf.SlSortCmp.Whole1
import Derived.Shelf.SlGeneric
import Derived.Ground.NamesProg
import Derived.Ground.SlsfProg
set_option linter.unusedVariables false
set_option linter.unusedSimpArgs false
namespace Go.Cab
set_option linter.unusedSimpArgs false
set_option linter.unusedVariables false
open Go
structure Span where
  lo : Int
  hi : Int
  deriving DecidableEq, Inhabited
structure Nd where
  parent : Int
  ohms : Span
  limit : Int
  load : Span
  least : Int
  delay : Int
  deriving DecidableEq, Inhabited
structure Cable where
  supply : Span
  nodes : List Nd
def Span.enc (s : Span) : List Value := [.int .i64 s.lo, .int .i64 s.hi]
def Nd.enc (n : Nd) : List Value := [.int .i64 n.parent, .int .i64 n.ohms.lo, .int .i64 n.ohms.hi, .int .i64 n.limit, .int .i64 n.load.lo, .int .i64 n.load.hi, .int .i64 n.least, .int .i64 n.delay]
theorem Span.enc_len : ∀ s : Span, s.enc.length = 2 := fun _ => rfl
theorem Nd.enc_len : ∀ s : Nd, s.enc.length = 8 := fun _ => rfl
theorem Span.enc_ne : ∀ s : Span, s.enc ≠ [] := fun _ => by simp [Span.enc]
theorem Nd.enc_ne : ∀ s : Nd, s.enc ≠ [] := fun _ => by simp [Nd.enc]

theorem Span.enc_one (s : Span) : ∀ u ∈ s.enc, u.oneCell' = true := by intro u hu; simp [Span.enc] at hu; rcases hu with rfl | rfl <;> rfl
theorem Nd.enc_one (s : Nd) : ∀ u ∈ s.enc, u.oneCell' = true := by intro u hu; simp [Nd.enc] at hu; (repeat' (rcases hu with rfl | hu)) <;> (try subst hu) <;> rfl
def Span.bad (s : Span) : Bool := decide (s.lo > s.hi) || decide (s.lo < -1073741824) || decide (s.hi > 1073741824)
def badAny (l : List Span) : Int := if l.any Span.bad then 2 else 0
theorem badAny_bad {xs : List Span} {i : Nat} {x : Span} (hx : xs[i]? = some x) (h : x.bad = true) : badAny xs = 2 := by
  have : xs.any Span.bad = true := List.any_eq_true.2 ⟨x, List.mem_of_getElem? hx, h⟩
  simp [badAny, this]
theorem badAny_good {xs : List Span} (h : ∀ s ∈ xs, s.bad = false) : badAny xs = 0 := by
  have : xs.any Span.bad = false := List.any_eq_false.2 (fun s hs => by simp [h s hs])
  simp [badAny, this]
def Span.within (s : Span) (lo hi : Int) : Bool := !s.bad && decide (lo ≤ s.lo) && decide (s.hi ≤ hi)
theorem within_eq {s : Span} {lo hi : Int} : s.within lo hi = (decide (badAny [s] = 0) && decide (lo ≤ s.lo) && decide (s.hi ≤ hi)) := by
  unfold Span.within badAny
  cases h : s.bad <;> simp [h]
/-- a node that may stand at the place k -/
def Nd.good (n : Nd) (k : Nat) : Bool :=
  (if k = 0 then decide (n.parent = -1) && decide (n.ohms.lo = 0) && decide (n.ohms.hi = 0) && decide (n.delay = -1) else decide (0 ≤ n.parent) && decide (n.parent < k)) &&
  n.ohms.within 0 16777216 && n.load.within 0 65536 && decide (0 ≤ n.limit) && decide (n.limit ≤ 3932160) && decide (0 ≤ n.least) && decide (n.least ≤ 67108864) && decide (-1 ≤ n.delay) && decide (n.delay ≤ 1048576)
theorem Nd.good_of {n : Nd} {i : Nat} (c3 : (!(decide ((i:Int) = 0) && decide (n.parent = -1) && (decide (n.ohms.lo = 0) && (decide (n.ohms.hi = 0) && true)) && decide (n.delay = -1)) && (decide ((i:Int) = 0) || decide (n.parent < 0) || decide ((i:Int) ≤ n.parent))) = false) 
  (c4 : (!n.ohms.within 0 16777216 || !n.load.within 0 65536) = false)
 (c5 : (decide (n.limit < 0) || decide (3932160 < n.limit) || decide (n.least < 0) || decide (67108864 < n.least) || decide (n.delay < -1) || decide (1048576 < n.delay)) = false) : n.good i = true := by
  simp only [Bool.and_eq_false_iff, Bool.or_eq_false_iff, Bool.not_eq_false', decide_eq_false_iff_not, Bool.and_eq_true, decide_eq_true_eq, Bool.and_true] at c3 c4 c5
  by_cases hi : i = 0
  · subst hi
    simp [Nd.good, c4.1, c4.2]
    omega
  · simp [Nd.good, c4.1, c4.2, hi]
    omega
def goodFrom : Nat → List Nd → Bool
  | _, [] => true
  | k, n :: ns => n.good k && goodFrom (k + 1) ns
def Cable.check (c : Cable) : Int :=
  if c.nodes.length > 60 then 6 else if c.nodes.length = 0 ∨ c.supply.within 0 67108864 = false then 2 else if goodFrom 0 c.nodes then 0 else 2
theorem goodFrom_iff {ns : List Nd} : ∀ {k : Nat}, goodFrom k ns = true ↔ ∀ (i : Nat) (n : Nd), ns[i]? = some n → n.good (k + i) = true := by
  induction ns with
  | nil => intro k; simp [goodFrom]
  | cons m ns ih =>
    intro k
    simp only [goodFrom, Bool.and_eq_true, ih]
    constructor
    · rintro ⟨h1, h2⟩ i n hn
      cases i with
      | zero => simp at hn; subst hn; exact h1
      | succ i => have := h2 i n (by simpa using hn); rwa [show k + 1 + i = k + (i + 1) by omega] at this
    · intro h
      exact ⟨h 0 m rfl, fun i n hn => by have := h (i + 1) n (by simpa using hn); rwa [show k + (i + 1) = k + 1 + i by omega] at this⟩
theorem goodFrom_take {ns : List Nd} (h : ∀ (i : Nat) (n : Nd), ns[i]? = some n → n.good i = true) : goodFrom 0 ns = true := goodFrom_iff.2 (fun i n hn => by rw [Nat.zero_add]; exact h i n hn)
theorem check_many {c : Cable} (h : 60 < c.nodes.length) : c.check = 6 := by simp [Cable.check, h]
theorem check_none {c : Cable} (h0 : ¬ 60 < c.nodes.length) (h : c.nodes.length = 0 ∨ c.supply.within 0 67108864 = false) : c.check = 2 := by simp only [Cable.check, if_neg h0, if_pos h]
theorem check_bad {c : Cable} {i : Nat} {n : Nd} (h0 : ¬ 60 < c.nodes.length) (hn : c.nodes[i]? = some n) (h : n.good i = false) : c.check = 2 := by
  have : ¬ goodFrom 0 c.nodes = true := fun hg => by
    have := goodFrom_iff.1 hg i n hn
    rw [Nat.zero_add] at this; simp [h] at this
  simp only [Cable.check, if_neg h0]
  split <;> simp_all
theorem check_ok {c : Cable} (h0 : ¬ 60 < c.nodes.length) (h1 : ¬ (c.nodes.length = 0 ∨ c.supply.within 0 67108864 = false)) (h : ∀ (i : Nat) (n : Nd), c.nodes[i]? = some n → n.good i = true) : c.check = 0 := by
  simp only [Cable.check, if_neg h0, if_neg h1, if_pos (goodFrom_take h)]
def Cable.cells (c : Cable) (a : Option Addr) (cc : Nat) : List Value := [.int .i64 c.supply.lo, .int .i64 c.supply.hi, .slice a c.nodes.length cc]
theorem Nd.good_props {n : Nd} {k : Nat} (h : n.good k = true) : (k = 0 → n.parent = -1) ∧ (k ≠ 0 → 0 ≤ n.parent ∧ n.parent < k) ∧ 0 ≤ n.limit ∧ n.limit ≤ 3932160 ∧ 0 ≤ n.load.lo ∧ n.load.lo ≤ n.load.hi ∧ n.load.hi ≤ 65536 ∧ 0 ≤ n.ohms.lo ∧ n.ohms.lo ≤ n.ohms.hi ∧ n.ohms.hi ≤ 16777216 ∧ 0 ≤ n.least ∧ n.least ≤ 67108864 ∧ -1 ≤ n.delay ∧ n.delay ≤ 1048576 ∧ (k = 0 → n.delay = -1) := by
  simp only [Nd.good, Span.within, Span.bad, Bool.and_eq_true, Bool.not_eq_true', Bool.or_eq_false_iff, decide_eq_true_eq, decide_eq_false_iff_not] at h
  by_cases hk : k = 0
  · simp [hk] at h; omega
  · simp [hk] at h; omega
theorem check_zero {c : Cable} (h : c.check = 0) : 0 < c.nodes.length ∧ c.nodes.length ≤ 60 ∧ (0 ≤ c.supply.lo ∧ c.supply.lo ≤ c.supply.hi ∧ c.supply.hi ≤ 67108864) ∧ ∀ (i : Nat) (n : Nd), c.nodes[i]? = some n → n.good i = true := by
  unfold Cable.check at h
  split at h
  · simp at h
  · split at h
    · simp at h
    · rename_i h0 h1
      split at h
      · rename_i hg
        simp only [not_or, Bool.not_eq_false] at h1
        have h2 := h1.2
        simp only [Span.within, Span.bad, Bool.and_eq_true, Bool.not_eq_true', Bool.or_eq_false_iff, decide_eq_true_eq, decide_eq_false_iff_not] at h2
        refine ⟨by omega, by omega, by omega, fun i n hn => ?_⟩
        have := goodFrom_iff.1 hg i n hn
        rwa [Nat.zero_add] at this
      · simp at h
/-- the parent of a node -/
def Cable.par (c : Cable) (k : Nat) : Int := match c.nodes[k]? with | some n => n.parent | none => -1
def kidStep (ks : List (List Int)) (p : Nat) (j : Int) : List (List Int) := ks.set p ((ks.getD p []) ++ [j])
def kidsUpto (c : Cable) : Nat → List (List Int)
  | 0 => List.replicate c.nodes.length []
  | i + 1 => kidStep (kidsUpto c i) (c.par (i + 1)).toNat (i + 1 : Nat)
theorem kidsUpto_length (c : Cable) (i : Nat) : (kidsUpto c i).length = c.nodes.length := by
  induction i with
  | zero => simp [kidsUpto]
  | succ i ih => simp [kidsUpto, kidStep, ih]
def kids (c : Cable) : List (List Int) := kidsUpto c (c.nodes.length - 1)
open Go.J in
structure Tree where
  p : Nat
  q : Nat
  ss : List Go.J.Sl
def Cable.tcells (c : Cable) (a : Option Addr) (cc : Nat) (q : Nat) : List Value := [.int .i64 c.supply.lo, .int .i64 c.supply.hi, .slice a c.nodes.length cc, .slice (some ⟨q, 0, none⟩) c.nodes.length c.nodes.length]
open Go.J in
def Tree.res (c : Cable) (a : Option Addr) (cc : Nat) (t : Tree) : List Res := bx t.p 82 (c.tcells a cc t.q) :: bx t.q 33 (t.ss.flatMap Sl.enc) :: t.ss.map Sl.row
open Go.J in
theorem tree_start {w₀ w : World} {F : Nat → Prop} {A B C : Res} {Φ : List Res} {n : Nat} (h : St w₀ F [A, B, C] Φ w) : St w₀ F ([A, B] ++ (List.replicate n (⟨none, 0, 0, []⟩ : Sl)).map Sl.grow) Φ w := by
  have h1 := ((h.permM (Pick.there (Pick.there Pick.here)).perm).dropM.newGs (e := 3) (sz := 1) n).swapM
  simpa [Sl.grow] using h1
theorem flat_rep (n : Nat) : (List.replicate n [Value.slice none 0 0]).flatten = (List.replicate n (⟨none, 0, 0, []⟩ : Go.J.Sl)).flatMap Go.J.Sl.enc := by
  induction n with
  | zero => rfl
  | succ n ih => simp [List.replicate_succ, ih, Go.J.Sl.enc, Go.J.Sl.val]
open Go.J in
theorem tree_comes (c : Cable) (a : Option Addr) (cc p q : Nat) (ss : List Sl) : ∀ r ∈ Tree.res c a cc ⟨p, q, ss⟩, ∃ r' ∈ [bx p 82 (c.tcells a cc q), bx q 33 (ss.flatMap Sl.enc)] ++ ss.map Sl.grow, (∀ w, r'.φ w → r.φ w) ∧ ∀ b, r.U b → r'.U b := by
  intro r hr
  simp only [Tree.res, List.mem_cons, List.mem_map] at hr
  rcases hr with rfl | rfl | ⟨s, hs, rfl⟩
  · exact ⟨_, List.mem_cons_self .., fun _ h => h, fun _ h => h⟩
  · exact ⟨_, List.mem_cons_of_mem _ (List.mem_cons_self ..), fun _ h => h, fun _ h => h⟩
  · exact ⟨s.grow, by simp only [List.mem_append, List.mem_map]; exact .inr ⟨s, hs, rfl⟩, fun _ h => s.row_of h, fun _ h => s.row_U h⟩
theorem kids_next {c : Cable} {ss : List Go.J.Sl} {s : Go.J.Sl} {i k : Nat} {nd : Nd} {a' : Option Addr} {m c' : Nat} (hk : ss.map (·.xs) = kidsUpto c i) (hn : c.nodes[i + 1]? = some nd) (hs : ss[k]? = some s) (hp : nd.parent.toNat = k) : (ss.set k ⟨a', m, c', s.xs ++ [(i : Int) + 1]⟩).map (·.xs) = kidsUpto c (i + 1) := by
  have h1 : c.par (i + 1) = nd.parent := by simp [Cable.par, hn]
  have h2 : (kidsUpto c i).getD k [] = s.xs := by rw [← hk]; simp [List.getD, hs]
  rw [kidsUpto, kidStep, h1, hp, h2, ← hk, List.map_set]
  simp

/-! paths -/
def pathGo (c : Cable) : Nat → Int → List Int
  | 0, _ => []
  | f + 1, k => if k < 0 then [] else k :: pathGo c f (c.par k.toNat)
def path (c : Cable) (k : Int) : List Int := pathGo c (k.toNat + 1) k
/-- what a cable is that has been checked -/
structure Fit (c : Cable) : Prop where
  pos : 0 < c.nodes.length
  le : c.nodes.length ≤ 60
  sup : 0 ≤ c.supply.lo ∧ c.supply.lo ≤ c.supply.hi ∧ c.supply.hi ≤ 67108864
  good : ∀ (i : Nat) (n : Nd), c.nodes[i]? = some n → n.good i = true
theorem Fit.of {c : Cable} (h : c.check = 0) : Fit c := let ⟨a, b, d, e⟩ := check_zero h; ⟨a, b, d, e⟩
theorem Fit.par_lt {c : Cable} (h : Fit c) {k : Nat} : -1 ≤ c.par k ∧ c.par k < k := by
  unfold Cable.par
  cases hk : c.nodes[k]? with
  | none => simp; omega
  | some n =>
    have := Nd.good_props (h.good k n hk)
    simp only
    by_cases h0 : k = 0
    · have := this.1 h0; omega
    · have := this.2.1 h0; omega
theorem pathGo_enough {c : Cable} (h : Fit c) : ∀ (f : Nat) (k : Int), k.toNat + 1 ≤ f → pathGo c f k = path c k := by
  have key : ∀ (m : Nat) (f g : Nat) (k : Int), k.toNat ≤ m → k.toNat + 1 ≤ f → k.toNat + 1 ≤ g → pathGo c f k = pathGo c g k := by
    intro m
    induction m with
    | zero =>
      intro f g k hm hf hg
      obtain ⟨f, rfl⟩ : ∃ f', f = f' + 1 := ⟨f - 1, by omega⟩
      obtain ⟨g, rfl⟩ : ∃ g', g = g' + 1 := ⟨g - 1, by omega⟩
      simp only [pathGo]
      have hp := h.par_lt (k := k.toNat)
      split
      · rfl
      · have : c.par k.toNat < 0 := by omega
        congr 1
        cases f <;> cases g <;> simp [pathGo, this]
    | succ m ih =>
      intro f g k hm hf hg
      obtain ⟨f, rfl⟩ : ∃ f', f = f' + 1 := ⟨f - 1, by omega⟩
      obtain ⟨g, rfl⟩ : ∃ g', g = g' + 1 := ⟨g - 1, by omega⟩
      simp only [pathGo]
      have hp := h.par_lt (k := k.toNat)
      split
      · rfl
      · congr 1
        by_cases hk : c.par k.toNat < 0
        · cases f <;> cases g <;> simp [pathGo, hk]
        · exact ih f g _ (by omega) (by omega) (by omega)
  exact fun f k hf => key _ _ _ _ (Nat.le_refl _) hf (Nat.le_refl _)
theorem pathGo_neg {c : Cable} {k : Int} (f : Nat) (h : k < 0) : pathGo c f k = [] := by cases f <;> simp [pathGo, h]
theorem path_neg {c : Cable} {k : Int} (h : k < 0) : path c k = [] := by simp [path, pathGo, h]
theorem path_step {c : Cable} (h : Fit c) {k : Int} (hk : 0 ≤ k) : path c k = k :: path c (c.par k.toNat) := by
  have hp := h.par_lt (k := k.toNat)
  have hk' : ¬ k < 0 := by omega
  rw [path, pathGo, if_neg hk']
  congr 1
  by_cases hn : c.par k.toNat < 0
  · rw [path_neg hn, pathGo_neg _ hn]
  · exact pathGo_enough h _ _ (by omega)
theorem path_mem {c : Cable} (h : Fit c) {k x : Int} (hx : x ∈ path c k) : 0 ≤ x ∧ x ≤ k := by
  have key : ∀ (m : Nat) (k : Int), k.toNat ≤ m → x ∈ path c k → 0 ≤ x ∧ x ≤ k := by
    intro m
    induction m with
    | zero =>
      intro k hm hx
      by_cases hk : k < 0
      · rw [path_neg hk] at hx; simp at hx
      · rw [path_step h (by omega)] at hx
        have hp := h.par_lt (k := k.toNat)
        rcases List.mem_cons.1 hx with rfl | hx
        · omega
        · rw [path_neg (by omega)] at hx; simp at hx
    | succ m ih =>
      intro k hm hx
      by_cases hk : k < 0
      · rw [path_neg hk] at hx; simp at hx
      · rw [path_step h (by omega)] at hx
        have hp := h.par_lt (k := k.toNat)
        rcases List.mem_cons.1 hx with rfl | hx
        · omega
        · by_cases hn : c.par k.toNat < 0
          · rw [path_neg hn] at hx; simp at hx
          · have := ih _ (by omega) hx; omega
  exact key _ k (Nat.le_refl _) hx
def pathV (c : Cable) (k : Int) : List (List Value) := (path c k).map fun x => [Go.J.I64 x]
theorem pathV_step {c : Cable} (h : Fit c) {k : Int} (hk : 0 ≤ k) : pathV c k = [Go.J.I64 k] :: pathV c (c.par k.toNat) := by simp [pathV, path_step h hk]
theorem drop_cons {α : Type} {l : List α} {i : Nat} {x : α} {xs : List α} (h : l.drop i = x :: xs) : l[i]? = some x ∧ l.drop (i + 1) = xs ∧ i < l.length := by
  have hlt : i < l.length := by
    rcases Nat.lt_or_ge i l.length with h1 | h1
    · exact h1
    · rw [List.drop_eq_nil_of_le h1] at h; cases h
  rw [List.drop_eq_getElem_cons hlt] at h
  injection h with h1 h2
  exact ⟨by rw [List.getElem?_eq_getElem hlt, h1], h2, hlt⟩
theorem drop_nil {α : Type} {l : List α} {i : Nat} (h : l.drop i = []) (hi : i ≤ l.length) : i = l.length := by
  have := List.drop_eq_nil_iff.1 h; omega

/-! lists of currents -/
def badAmp (x : Int) : Bool := decide (x < 0) || decide (65536 < x)
def ampsV (n : Nat) (l : List Int) : Int := if l.length ≠ n then 17 else if l.any badAmp then 3 else 0
/-- the place of the first that is such, -1 if there is none -/
def idx {X : Type} (p : X → Bool) (l : List X) : Int := match l.findIdx? p with | some i => i | none => -1
theorem idx_found {X : Type} {p : X → Bool} {l : List X} {i : Nat} {x : X} (hx : l[i]? = some x) (h0 : ∀ s ∈ l.take i, p s = false) (h : p x = true) : idx p l = i := by
  have hlt := (List.getElem?_eq_some_iff.1 hx)
  obtain ⟨hl, he⟩ := hlt
  have : l.findIdx? p = some i := by
    rw [List.findIdx?_eq_some_iff_getElem]
    refine ⟨hl, by rw [he]; exact h, fun j hj => ?_⟩
    have := h0 l[j] (by rw [List.mem_take_iff_getElem]; exact ⟨j, by omega, rfl⟩)
    simp [this]
  simp [idx, this]
theorem idx_none {X : Type} {p : X → Bool} {l : List X} (h0 : ∀ s ∈ l, p s = false) : idx p l = -1 := by
  have : l.findIdx? p = none := by rw [List.findIdx?_eq_none_iff]; exact h0
  simp [idx, this]
theorem idx_any {X : Type} {p : X → Bool} {l : List X} : decide (0 ≤ idx p l) = l.any p := by
  unfold idx
  cases h : l.findIdx? p with
  | none =>
    rw [List.findIdx?_eq_none_iff] at h
    have : l.any p = false := List.any_eq_false.2 (fun x hx => by simp [h x hx])
    simp [this]
  | some i =>
    rw [List.findIdx?_eq_some_iff_getElem] at h
    obtain ⟨hl, hp, _⟩ := h
    have : l.any p = true := List.any_eq_true.2 ⟨l[i], List.getElem_mem _, hp⟩
    simp [this]

/-- a number is added at some places -/
def addAt (s : List Int) (ps : List Int) (n : Int) : List Int := ps.foldl (fun s i => s.set i.toNat (s.getD i.toNat 0 + n)) s
theorem addAt_take {s ps : List Int} {n y z : Int} {j : Nat} (hy : ps[j]? = some y) (hz : (addAt s (ps.take j) n)[y.toNat]? = some z) : addAt s (ps.take (j + 1)) n = (addAt s (ps.take j) n).set y.toNat (z + n) := by
  obtain ⟨hl, he⟩ := List.getElem?_eq_some_iff.1 hy
  rw [List.take_succ_eq_append_getElem hl, he, addAt, List.foldl_append]
  simp only [List.foldl_cons, List.foldl_nil]
  rw [show List.foldl (fun s (i : Int) => s.set i.toNat (s.getD i.toNat 0 + n)) s (ps.take j) = addAt s (ps.take j) n from rfl]
  rw [show (addAt s (ps.take j) n).getD y.toNat 0 = z by simp [List.getD, hz]]
theorem addAt_length (s ps : List Int) (n : Int) : (addAt s ps n).length = s.length := by
  induction ps generalizing s with
  | nil => rfl
  | cons p ps ih => simp only [addAt, List.foldl_cons] at ih ⊢; rw [ih]; simp
theorem addAt_bound {s ps : List Int} {n B C : Int} (hs : ∀ x ∈ s, 0 ≤ x ∧ x ≤ B) (hn : 0 ≤ n ∧ n ≤ C) : ∀ x ∈ addAt s ps n, 0 ≤ x ∧ x ≤ B + ps.length * C := by
  induction ps generalizing s B with
  | nil => intro x hx; have := hs x hx; simp; omega
  | cons p ps ih =>
    intro x hx
    have : ∀ x ∈ s.set p.toNat (s.getD p.toNat 0 + n), 0 ≤ x ∧ x ≤ B + C := by
      intro x hx
      rcases List.mem_or_eq_of_mem_set hx with h | h
      · have := hs x h; omega
      · cases hg : s[p.toNat]? with
        | none =>
          have hl : s.length ≤ p.toNat := by simpa using hg
          rw [List.set_eq_of_length_le hl] at hx
          have := hs x hx; omega
        | some y => have := hs y (List.mem_of_getElem? hg); simp [List.getD, hg] at h; omega
    have h2 := ih this x hx
    simp only [List.length_cons]
    have e : ((ps.length + 1 : Nat) : Int) * C = ps.length * C + C := by rw [Int.natCast_add, Int.add_mul]; simp
    omega
theorem path_length {c : Cable} (h : Fit c) {k : Int} (hk : k < 60) : (path c k).length ≤ 60 := by
  have key : ∀ (m : Nat) (k : Int), k < m → (path c k).length ≤ m := by
    intro m
    induction m with
    | zero => intro k hk; rw [path_neg (by omega)]; simp
    | succ m ih =>
      intro k hk
      by_cases hn : k < 0
      · rw [path_neg hn]; simp
      · rw [path_step h (by omega)]
        have hp := h.par_lt (k := k.toNat)
        have := ih _ (show c.par k.toNat < m by omega)
        simp; omega
  exact key 60 k (by omega)
theorem pathV_nth {c : Cable} {k : Int} {j : Nat} {v : List Value} (h : Go.J.nth (pathV c k) j = some v) : ∃ y, (path c k)[j]? = some y ∧ v = [Go.J.I64 y] := by
  have := Go.J.nth_get h
  simp only [pathV, List.getElem?_map, Option.map_eq_some_iff] at this
  obtain ⟨y, h1, h2⟩ := this
  exact ⟨y, h1, h2.symm⟩
theorem pathV_len {c : Cable} {k : Int} : (pathV c k).length = (path c k).length := by simp [pathV]
def sumsUpto (c : Cable) (gs : List Int) : Nat → List Int
  | 0 => List.replicate gs.length 0
  | i + 1 => addAt (sumsUpto c gs i) (path c i) (gs.getD i 0)
theorem sumsUpto_length (c : Cable) (gs : List Int) (i : Nat) : (sumsUpto c gs i).length = gs.length := by
  induction i with
  | zero => simp [sumsUpto]
  | succ i ih => simp [sumsUpto, addAt_length, ih]
def firstOver (c : Cable) (s : List Int) : Int × Int := match (s.zip c.nodes).findIdx? (fun x => decide (x.2.limit < x.1)) with | some k => (k, 18) | none => (0, 0)
def checkShareV (c : Cable) (gs : List Int) : Int × Int :=
  if c.check ≠ 0 then (0, c.check) else if ampsV c.nodes.length gs ≠ 0 then (0, ampsV c.nodes.length gs) else firstOver c (sumsUpto c gs c.nodes.length)
theorem flat_repI (n : Nat) : (List.replicate n [Value.int .i64 0]).flatten = (List.replicate n (0 : Int)).flatMap Go.J.enI := by
  induction n with
  | zero => rfl
  | succ n ih => simp [List.replicate_succ, ih]
theorem amps_ok {n : Nat} {l : List Int} (h : ampsV n l = 0) : l.length = n ∧ ∀ x ∈ l, 0 ≤ x ∧ x ≤ 65536 := by
  unfold ampsV at h
  split at h
  · simp at h
  · split at h
    · simp at h
    · rename_i h1 h2
      refine ⟨by simpa using h1, fun x hx => ?_⟩
      simp only [List.any_eq_true, not_exists, not_and, Bool.not_eq_true] at h2
      have := h2 x hx
      simp only [badAmp, Bool.or_eq_false_iff, decide_eq_false_iff_not] at this
      omega
/-- what a tree's owner sees -/
def needR (c : Cable) (a : Option Addr) (cc p q : Nat) : Go.J.Res := Go.J.both (Go.J.bx p 82 (c.tcells a cc q)) (Go.J.rowO a 8 Nd.enc c.nodes)
section
open Go.J
variable {x : Option Nat} {P : Program} {N : Nat} {ops : Array Oper} {Q : Exit → Act → World → Prop} {rest : List Oper} {D : List Deferred} {L : List (Nat × Value)} {w₀ : World} {F : Nat → Prop} {M Φ : List Res} {c : Cable} {a : Option Addr} {cc : Nat} {t : Tree}
theorem openTree (j : Nat) (hj : nth Φ j = some (rowO a 8 Nd.enc c.nodes)) (h : J x P N ops Q rest D L (St w₀ F M (needR c a cc t.p t.q :: bx t.p 82 (c.tcells a cc t.q) :: bigR (t.res c a cc) :: Φ))) : J x P N ops Q rest D L (St w₀ F M (bigR (t.res c a cc) :: Φ)) := by
  refine h.conseq fun w hA => ?_
  have h1 := hA.imm _ (List.mem_cons_self ..)
  have hm : bx t.p 82 (c.tcells a cc t.q) ∈ t.res c a cc := List.mem_cons_self ..
  have h2 : St w₀ F M (bx t.p 82 (c.tcells a cc t.q) :: bigR (t.res c a cc) :: Φ) w := hA.addΦ (h1.1 _ hm) (fun b hb => h1.2.1 b ⟨_, hm, hb⟩) (fun r hr b hb hb' => h1.2.2 r hr b hb ⟨_, hm, hb'⟩)
  exact h2.addBoth 0 (j + 2) rfl hj
theorem markIn {w : World} {rD : Nat} {l : List Res} {ms : List Nat} {r : Res} (h : St w₀ F (om rD :: r :: (l ++ ms.map om)) Φ w) : St w₀ F (l ++ (rD :: ms).map om) Φ w :=
  ((h.permM (.swap _ _ _)).dropM).permM List.perm_middle.symm
end
theorem sums_next {c : Cable} (hF : Fit c) (hn : c.nodes.length ≤ 60) {s : List Int} {x : Int} {i : Nat} (hs : ∀ z ∈ s, 0 ≤ z ∧ z ≤ i * 3932160) (hx : 0 ≤ x ∧ x ≤ 65536) (hi : i < 60) : ∀ z ∈ addAt s (path c i) x, 0 ≤ z ∧ z ≤ ((i + 1 : Nat) : Int) * 3932160 := by
  intro z hz
  have h1 := addAt_bound (ps := path c i) hs hx z hz
  have h2 := path_length hF (k := i) (by omega)
  omega
theorem share_over {c : Cable} {gs : List Int} {k : Nat} {y : Int} {n : Nd} (ha : ampsV c.nodes.length gs = 0) (h : c.check = 0) (hx : ((sumsUpto c gs c.nodes.length).zip c.nodes)[k]? = some (y, n)) (h0 : ∀ s ∈ ((sumsUpto c gs c.nodes.length).zip c.nodes).take k, decide (s.2.limit < s.1) = false) (h1 : decide (n.limit < y) = true) : checkShareV c gs = (↑k, 18) := by
  have := idx_found (p := fun x : Int × Nd => decide (x.2.limit < x.1)) hx h0 h1
  unfold idx at this
  simp only [checkShareV, h, ha, ne_eq, not_true_eq_false, if_false, firstOver]
  split at this
  · rw [this]
  · omega
theorem share_none {c : Cable} {gs : List Int} (ha : ampsV c.nodes.length gs = 0) (h : c.check = 0) (h0 : ∀ s ∈ (sumsUpto c gs c.nodes.length).zip c.nodes, decide (s.2.limit < s.1) = false) : checkShareV c gs = (0, 0) := by
  have := idx_none (p := fun x : Int × Nd => decide (x.2.limit < x.1)) h0
  unfold idx at this
  simp only [checkShareV, h, ha, ne_eq, not_true_eq_false, if_false, firstOver]
  split at this
  · omega
  · rfl

/-! currents and voltages -/
def Span.add (a b : Span) : Span := ⟨a.lo + b.lo, a.hi + b.hi⟩
def addSp (s : List Span) (ps : List Int) (n : Span) : List Span := ps.foldl (fun s i => s.set i.toNat ((s.getD i.toNat ⟨0, 0⟩).add n)) s
theorem addSp_take {s : List Span} {ps : List Int} {n z : Span} {y : Int} {j : Nat} (hy : ps[j]? = some y) (hz : (addSp s (ps.take j) n)[y.toNat]? = some z) : addSp s (ps.take (j + 1)) n = (addSp s (ps.take j) n).set y.toNat (z.add n) := by
  obtain ⟨hl, he⟩ := List.getElem?_eq_some_iff.1 hy
  rw [List.take_succ_eq_append_getElem hl, he, addSp, List.foldl_append]
  simp only [List.foldl_cons, List.foldl_nil]
  rw [show List.foldl (fun s (i : Int) => s.set i.toNat ((s.getD i.toNat ⟨0, 0⟩).add n)) s (ps.take j) = addSp s (ps.take j) n from rfl]
  rw [show (addSp s (ps.take j) n).getD y.toNat ⟨0, 0⟩ = z by simp [List.getD, hz]]
theorem addSp_length (s : List Span) (ps : List Int) (n : Span) : (addSp s ps n).length = s.length := by
  induction ps generalizing s with
  | nil => rfl
  | cons p ps ih => simp only [addSp, List.foldl_cons] at ih ⊢; rw [ih]; simp
theorem addSp_bound {s : List Span} {ps : List Int} {n : Span} {B C : Int} (hs : ∀ x ∈ s, 0 ≤ x.lo ∧ x.lo ≤ x.hi ∧ x.hi ≤ B) (hn : 0 ≤ n.lo ∧ n.lo ≤ n.hi ∧ n.hi ≤ C) : ∀ x ∈ addSp s ps n, 0 ≤ x.lo ∧ x.lo ≤ x.hi ∧ x.hi ≤ B + ps.length * C := by
  induction ps generalizing s B with
  | nil => intro x hx; have := hs x hx; simp; omega
  | cons p ps ih =>
    intro x hx
    have : ∀ x ∈ s.set p.toNat ((s.getD p.toNat ⟨0, 0⟩).add n), 0 ≤ x.lo ∧ x.lo ≤ x.hi ∧ x.hi ≤ B + C := by
      intro x hx
      rcases List.mem_or_eq_of_mem_set hx with h | h
      · have := hs x h; omega
      · cases hg : s[p.toNat]? with
        | none =>
          have hl : s.length ≤ p.toNat := by simpa using hg
          rw [List.set_eq_of_length_le hl] at hx
          have := hs x hx; omega
        | some y =>
          have := hs y (List.mem_of_getElem? hg)
          simp [List.getD, hg] at h
          subst h; simp only [Span.add]; omega
    have h2 := ih this x hx
    simp only [List.length_cons]
    have e : ((ps.length + 1 : Nat) : Int) * C = ps.length * C + C := by rw [Int.natCast_add, Int.add_mul]; simp
    omega
def Cable.load (c : Cable) (k : Nat) : Span := match c.nodes[k]? with | some n => n.load | none => ⟨0, 0⟩
def curUpto (c : Cable) : Nat → List Span
  | 0 => List.replicate c.nodes.length ⟨0, 0⟩
  | i + 1 => addSp (curUpto c i) (path c i) (c.load i)
def currents (c : Cable) : List Span := curUpto c c.nodes.length
theorem curUpto_length (c : Cable) (i : Nat) : (curUpto c i).length = c.nodes.length := by
  induction i with
  | zero => simp [curUpto]
  | succ i ih => simp [curUpto, addSp_length, ih]
theorem cur_next {c : Cable} (hF : Fit c) {s : List Span} {x : Span} {i : Nat} (hs : ∀ z ∈ s, 0 ≤ z.lo ∧ z.lo ≤ z.hi ∧ z.hi ≤ i * 3932160) (hx : 0 ≤ x.lo ∧ x.lo ≤ x.hi ∧ x.hi ≤ 65536) (hi : i < 60) : ∀ z ∈ addSp s (path c i) x, 0 ≤ z.lo ∧ z.lo ≤ z.hi ∧ z.hi ≤ ((i + 1 : Nat) : Int) * 3932160 := by
  intro z hz
  have h1 := addSp_bound (ps := path c i) hs hx z hz
  have h2 := path_length hF (k := i) (by omega)
  omega
theorem cur_bound {c : Cable} (hF : Fit c) : ∀ z ∈ currents c, 0 ≤ z.lo ∧ z.lo ≤ z.hi ∧ z.hi ≤ 235929600 := by
  have key : ∀ i, i ≤ c.nodes.length → ∀ z ∈ curUpto c i, 0 ≤ z.lo ∧ z.lo ≤ z.hi ∧ z.hi ≤ (i : Int) * 3932160 := by
    intro i
    induction i with
    | zero => intro _ z hz; have := (List.mem_replicate.1 hz).2; subst this; simp
    | succ i ih =>
      intro hi
      obtain ⟨n, hn⟩ : ∃ n, c.nodes[i]? = some n := ⟨_, List.getElem?_eq_getElem (by omega)⟩
      have hg := Nd.good_props (hF.good i n hn)
      have hl : c.load i = n.load := by simp [Cable.load, hn]
      exact cur_next hF (ih (by omega)) (by rw [hl]; omega) (by have := hF.le; omega)
  intro z hz
  have := key _ (Nat.le_refl _) z hz
  have := hF.le
  omega
theorem flat_repS (n : Nat) : (List.replicate n [Value.int .i64 0, Value.int .i64 0]).flatten = (List.replicate n (⟨0, 0⟩ : Span)).flatMap Span.enc := by
  induction n with
  | zero => rfl
  | succ n ih => simp [List.replicate_succ, ih, Span.enc]
/-- the voltages of the first k nodes, the others 0 -/
def voltStep (c : Cable) (cur : List Span) (out : List Span) (k : Nat) : List Span :=
  match c.nodes[k]?, cur[k]? with
  | some n, some i => let v := out.getD n.parent.toNat ⟨0, 0⟩; out.set k ⟨v.lo - (i.hi * n.ohms.hi + 999) / 1000, v.hi - i.lo * n.ohms.lo / 1000⟩
  | _, _ => out
def voltUpto (c : Cable) : Nat → List Span
  | 0 => (List.replicate c.nodes.length ⟨0, 0⟩).set 0 c.supply
  | 1 => (List.replicate c.nodes.length ⟨0, 0⟩).set 0 c.supply
  | k + 2 => voltStep c (currents c) (voltUpto c (k + 1)) (k + 1)
def voltages (c : Cable) : List Span := voltUpto c c.nodes.length
theorem voltUpto_length (c : Cable) (i : Nat) : (voltUpto c i).length = c.nodes.length := by
  induction i with
  | zero => simp [voltUpto]
  | succ i ih =>
    cases i with
    | zero => simp [voltUpto]
    | succ i =>
      simp only [voltUpto, voltStep]
      split
      · simp [ih]
      · exact ih
theorem mulb {a b A B : Int} (ha : 0 ≤ a ∧ a ≤ A) (hb : 0 ≤ b ∧ b ≤ B) : 0 ≤ a * b ∧ a * b ≤ A * B :=
  ⟨Int.mul_nonneg ha.1 hb.1, Int.mul_le_mul ha.2 hb.2 hb.1 (Int.le_trans ha.1 ha.2)⟩
theorem volt_bound {c : Cable} (hF : Fit c) : ∀ k, k ≤ c.nodes.length → ∀ z ∈ voltUpto c k, -(k : Int) * 3958241860000 ≤ z.lo ∧ z.lo ≤ 67108864 ∧ -(k : Int) * 3958241860000 ≤ z.hi ∧ z.hi ≤ 67108864 := by
  have base : ∀ z ∈ (List.replicate c.nodes.length (⟨0, 0⟩ : Span)).set 0 c.supply, 0 ≤ z.lo ∧ z.lo ≤ 67108864 ∧ 0 ≤ z.hi ∧ z.hi ≤ 67108864 := by
    intro z hz
    rcases List.mem_or_eq_of_mem_set hz with h | h
    · have := (List.mem_replicate.1 h).2; subst this; simp
    · subst h; have := hF.sup; omega
  intro k
  induction k with
  | zero => intro _ z hz; have := base z hz; simp; omega
  | succ k ih =>
    intro hk z hz
    cases k with
    | zero => have := base z hz; omega
    | succ k =>
      simp only [voltUpto, voltStep] at hz
      obtain ⟨n, hn⟩ : ∃ n, c.nodes[k + 1]? = some n := ⟨_, List.getElem?_eq_getElem (by omega)⟩
      obtain ⟨i, hi⟩ : ∃ i, (currents c)[k + 1]? = some i := ⟨_, List.getElem?_eq_getElem (by rw [currents, curUpto_length]; omega)⟩
      rw [hn, hi] at hz
      simp only at hz
      rcases List.mem_or_eq_of_mem_set hz with h | h
      · have := ih (by omega) z h; omega
      · have hng := Nd.good_props (hF.good _ n hn)
        have hib := cur_bound hF i (List.mem_of_getElem? hi)
        have h1 := mulb (a := i.hi) (b := n.ohms.hi) (A := 235929600) (B := 16777216) (by omega) (by omega)
        have h2 := mulb (a := i.lo) (b := n.ohms.lo) (A := 235929600) (B := 16777216) (by omega) (by omega)
        have hv : -((k + 1 : Nat) : Int) * 3958241860000 ≤ ((voltUpto c (k + 1)).getD n.parent.toNat ⟨0, 0⟩).lo ∧ ((voltUpto c (k + 1)).getD n.parent.toNat ⟨0, 0⟩).lo ≤ 67108864 ∧ -((k + 1 : Nat) : Int) * 3958241860000 ≤ ((voltUpto c (k + 1)).getD n.parent.toNat ⟨0, 0⟩).hi ∧ ((voltUpto c (k + 1)).getD n.parent.toNat ⟨0, 0⟩).hi ≤ 67108864 := by
          cases hg : (voltUpto c (k + 1))[n.parent.toNat]? with
          | none => simp [List.getD, hg]; omega
          | some y => have := ih (by omega) y (List.mem_of_getElem? hg); simpa [List.getD, hg] using this
        generalize (voltUpto c (k + 1)).getD n.parent.toNat ⟨0, 0⟩ = v at hv h
        subst h
        simp only
        omega
theorem currents_length (c : Cable) : (currents c).length = c.nodes.length := curUpto_length _ _
end Go.Cab
namespace Go.Cab
open Go Go.J
set_option linter.unusedSimpArgs false
set_option linter.unusedVariables false
def cmpI (x y : Int) : Int := if x < y then -1 else if y < x then 1 else 0
def orI (xs : List Int) : Int := (xs.find? (fun x => decide (x ≠ 0))).getD 0
theorem orI_two {a b : Int} : orI [a, b] = if a ≠ 0 then a else b := by
  unfold orI
  by_cases ha : a = 0
  · subst ha
    by_cases hb : b = 0
    · subst hb; rfl
    · simp [List.find?, hb]
  · simp [List.find?, ha]
theorem orI_found {xs : List Int} {i : Nat} {x : Int} (hx : xs[i]? = some x) (h0 : ∀ s ∈ xs.take i, decide (s ≠ 0) = false) (h : decide (x ≠ 0) = true) : orI xs = x := by
  have : xs.find? (fun x => decide (x ≠ 0)) = some x := by
    rw [List.find?_eq_some_iff_getElem]
    obtain ⟨hl, he⟩ := List.getElem?_eq_some_iff.1 hx
    refine ⟨h, i, hl, he, fun j hj => ?_⟩
    have := h0 xs[j] (by rw [List.mem_take_iff_getElem]; exact ⟨j, by omega, rfl⟩)
    simpa using this
  rw [orI, this]; rfl
theorem orI_none {xs : List Int} (h0 : ∀ s ∈ xs, decide (s ≠ 0) = false) : orI xs = 0 := by
  have : xs.find? (fun x => decide (x ≠ 0)) = none := by
    rw [List.find?_eq_none]; intro x hx; simp only [h0 x hx]; simp
  rw [orI, this]; rfl
/-- the comparison of two nodes -/
def cfR (ranks : List Int) (x y : Int) : Int := orI [cmpI (ranks.getD y.toNat 0) (ranks.getD x.toNat 0), cmpI x y]
/-- x is taken before y -/
def taken (ranks : List Int) (x y : Int) : Prop := ranks.getD y.toNat 0 < ranks.getD x.toNat 0 ∨ ranks.getD y.toNat 0 = ranks.getD x.toNat 0 ∧ x < y
theorem cfR_lt {ranks : List Int} {x y : Int} : cfR ranks x y < 0 ↔ taken ranks x y := by
  rw [cfR, orI_two]
  unfold cmpI taken
  generalize ranks.getD y.toNat 0 = a
  generalize ranks.getD x.toNat 0 = b
  by_cases h1 : a < b
  · simp [h1]
  · by_cases h2 : b < a
    · simp [h1, h2]; omega
    · have : a = b := by omega
      subst this
      by_cases h3 : x < y
      · simp [h3]
      · by_cases h4 : y < x <;> simp [h3, h4]
/-- the list of the nodes, in the order in which they are taken -/
def IsOrder (ranks : List Int) (ys : List Int) : Prop := ys.Perm ((List.range ranks.length).map fun i : Nat => (i : Int)) ∧ ys.Pairwise (fun x y => ¬ taken ranks y x)
theorem taken_total {ranks : List Int} {x y : Int} (h1 : ¬ taken ranks x y) (h2 : ¬ taken ranks y x) : x = y := by
  unfold taken at *; omega
theorem IsOrder.unique {ranks ys zs : List Int} (h1 : IsOrder ranks ys) (h2 : IsOrder ranks zs) : ys = zs :=
  (h1.1.trans h2.1.symm).eq_of_pairwise (fun _ _ _ _ a b => taken_total b a) h1.2 h2.2
def fillTo (n i : Nat) : List Int := (List.range n).map fun j => if j < i then (j : Int) else 0
theorem fillTo_zero (n : Nat) : fillTo n 0 = List.replicate n 0 := by
  apply List.ext_getElem <;> simp [fillTo]
theorem fillTo_next {n i : Nat} : (fillTo n i).set i (i : Int) = fillTo n (i + 1) := by
  apply List.ext_getElem?
  intro j
  rw [List.getElem?_set]
  by_cases hij : i = j
  · subst hij
    by_cases hn : i < n
    · simp [fillTo, hn]
    · simp [fillTo, hn]
  · simp only [hij, if_false, fillTo, List.getElem?_map]
    by_cases hn : j < n
    · simp only [List.getElem?_range hn, Option.map_some]
      by_cases hj : j < i
      · rw [if_pos hj, if_pos (by omega)]
      · rw [if_neg hj, if_neg (by omega)]
    · rw [List.getElem?_eq_none (by simpa using hn)]; rfl
theorem fillTo_all (n : Nat) : fillTo n n = (List.range n).map fun i : Nat => (i : Int) := by
  apply List.map_congr_left
  intro j hj
  rw [if_pos (List.mem_range.1 hj)]
theorem fin_range (n : Nat) : (List.finRange n).map (fun i : Fin n => (i.val : Int)) = (List.range n).map fun i : Nat => (i : Int) := by
  apply List.ext_getElem?
  intro i
  simp only [List.getElem?_map]
  by_cases hi : i < n
  · simp [hi]
  · rw [List.getElem?_eq_none (by simpa using hi), List.getElem?_eq_none (by simpa using hi)]; rfl
open Go.Lib Go.Proofs Go.Sort in
theorem cfR_swo (ranks : List Int) (n : Nat) : SWO (ltOf (fun x y : Fin n => cfR ranks (x.val : Int) (y.val : Int))) := by
  have key : ∀ x y : Fin n, ltOf (fun x y : Fin n => cfR ranks (x.val : Int) (y.val : Int)) x y = true ↔ taken ranks (x.val : Int) (y.val : Int) := fun x y => by
    rw [← cfR_lt]; simp [ltOf]
  refine ⟨fun x => ?_, fun x y z h1 h2 => ?_, fun x y z h1 h2 => ?_⟩
  · rw [Bool.eq_false_iff]; intro h; have := (key x x).1 h; unfold taken at this; omega
  · rw [key] at *; unfold taken at *; omega
  · rw [Bool.eq_false_iff] at *
    intro h
    rw [ne_eq, key] at h1 h2
    rw [key] at h
    unfold taken at *; omega
open Go.Lib Go.Proofs Go.Sort in
theorem order_of {ranks : List Int} {ys : List (Fin ranks.length)} (h1 : ys.Perm (List.finRange ranks.length)) (h2 : ys.Pairwise (fun x y => ltOf (fun x y : Fin ranks.length => cfR ranks (x.val : Int) (y.val : Int)) y x = false)) : IsOrder ranks (ys.map fun i : Fin ranks.length => (i.val : Int)) := by
  refine ⟨?_, ?_⟩
  · rw [← fin_range]; exact h1.map _
  · rw [List.pairwise_map]
    refine h2.imp ?_
    intro x y h ht
    rw [← cfR_lt] at ht
    simp [ltOf] at h
    omega
end Go.Cab
namespace Go.Cab
open Go Go.J
set_option linter.unusedSimpArgs false
set_option linter.unusedVariables false
def minAt (left : List Int) (ps : List Int) (n : Int) : Int := ps.foldl (fun n i => min n (left.getD i.toNat 0)) n
theorem minAt_take {left ps : List Int} {n y z : Int} {j : Nat} (hy : ps[j]? = some y) (hz : left[y.toNat]? = some z) : minAt left (ps.take (j + 1)) n = min (minAt left (ps.take j) n) z := by
  obtain ⟨hl, he⟩ := List.getElem?_eq_some_iff.1 hy
  rw [List.take_succ_eq_append_getElem hl, he, minAt, List.foldl_append]
  simp [minAt, List.getD, hz]
theorem minAt_le {left ps : List Int} {n : Int} : minAt left ps n ≤ n ∧ ∀ y ∈ ps, minAt left ps n ≤ left.getD y.toNat 0 := by
  induction ps generalizing n with
  | nil => simp [minAt]
  | cons p ps ih =>
    obtain ⟨h1, h2⟩ := ih (n := min n (left.getD p.toNat 0))
    have e : minAt left (p :: ps) n = minAt left ps (min n (left.getD p.toNat 0)) := rfl
    rw [e]
    refine ⟨by omega, fun y hy => ?_⟩
    rcases List.mem_cons.1 hy with rfl | hy
    · omega
    · exact h2 y hy
theorem getD_mem_or {l : List Int} {i : Nat} {p : Int → Prop} (h : ∀ x ∈ l, p x) (h0 : p 0) : p (l.getD i 0) := by
  cases hg : l[i]? with
  | none => simpa [List.getD, hg] using h0
  | some x => simpa [List.getD, hg] using h x (List.mem_of_getElem? hg)
theorem minAt_nonneg {left ps : List Int} {n : Int} (hl : ∀ x ∈ left, 0 ≤ x) (hn : 0 ≤ n) : 0 ≤ minAt left ps n := by
  induction ps generalizing n with
  | nil => simpa [minAt] using hn
  | cons p ps ih =>
    have := getD_mem_or (i := p.toNat) hl (Int.le_refl 0)
    exact ih (n := min n (left.getD p.toNat 0)) (by omega)
theorem addAt_other {s ps : List Int} {n : Int} {y : Nat} (h : ∀ p ∈ ps, p.toNat ≠ y) : (addAt s ps n)[y]? = s[y]? := by
  induction ps generalizing s with
  | nil => rfl
  | cons p ps ih =>
    have := ih (s := s.set p.toNat (s.getD p.toNat 0 + n)) (fun q hq => h q (List.mem_cons_of_mem _ hq))
    rw [show addAt s (p :: ps) n = addAt (s.set p.toNat (s.getD p.toNat 0 + n)) ps n from rfl, this, List.getElem?_set_ne (h p (List.mem_cons_self ..))]
theorem path_desc {c : Cable} (hF : Fit c) (k : Int) : (path c k).Pairwise (fun x y => y < x) := by
  have key : ∀ (m : Nat) (k : Int), k < m → (path c k).Pairwise (fun x y => y < x) := by
    intro m
    induction m with
    | zero => intro k hk; rw [path_neg (by omega)]; exact .nil
    | succ m ih =>
      intro k hk
      by_cases hn : k < 0
      · rw [path_neg hn]; exact .nil
      · rw [path_step hF (by omega)]
        have hp := hF.par_lt (k := k.toNat)
        refine .cons (fun y hy => ?_) (ih _ (by omega))
        have := path_mem hF hy; omega
  exact key (k.toNat + 1) k (by omega)
theorem path_take_ne {c : Cable} (hF : Fit c) {k y : Int} {j : Nat} (hy : (path c k)[j]? = some y) : ∀ p ∈ (path c k).take j, p.toNat ≠ y.toNat := by
  intro p hp
  obtain ⟨i, hi, rfl⟩ := List.mem_take_iff_getElem.1 hp
  obtain ⟨hl, he⟩ := List.getElem?_eq_some_iff.1 hy
  have := List.pairwise_iff_getElem.1 (path_desc hF k) i j (by omega) hl (by omega)
  have h0 := path_mem hF (List.mem_of_getElem? hy)
  rw [he] at this
  omega
def Cable.lim (c : Cable) (k : Nat) : Int := match c.nodes[k]? with | some n => n.limit | none => 0
def limTo (c : Cable) (i : Nat) : List Int := (List.range c.nodes.length).map fun j => if j < i then c.lim j else 0
theorem limTo_zero (c : Cable) : limTo c 0 = List.replicate c.nodes.length 0 := by apply List.ext_getElem <;> simp [limTo]
theorem limTo_next {c : Cable} {i : Nat} : (limTo c i).set i (c.lim i) = limTo c (i + 1) := by
  apply List.ext_getElem?
  intro j
  rw [List.getElem?_set]
  by_cases hij : i = j
  · subst hij
    by_cases hn : i < c.nodes.length
    · simp [limTo, hn]
    · simp [limTo, hn]
  · simp only [hij, if_false, limTo, List.getElem?_map]
    by_cases hn : j < c.nodes.length
    · simp only [List.getElem?_range hn, Option.map_some]
      by_cases hj : j < i
      · rw [if_pos hj, if_pos (by omega)]
      · rw [if_neg hj, if_neg (by omega)]
    · rw [List.getElem?_eq_none (by simpa using hn)]; rfl
def lims (c : Cable) : List Int := limTo c c.nodes.length
theorem lims_bound {c : Cable} (hF : Fit c) : ∀ z ∈ lims c, 0 ≤ z ∧ z ≤ 3932160 := by
  intro z hz
  simp only [lims, limTo, List.mem_map, List.mem_range] at hz
  obtain ⟨j, hj, rfl⟩ := hz
  rw [if_pos hj]
  unfold Cable.lim
  cases hn : c.nodes[j]? with
  | none => simp
  | some n => have := Nd.good_props (hF.good j n hn); simp only; omega
/-- one node is taken -/
def shareStep (c : Cable) (reqs : List Int) (s : List Int × List Int) (k : Int) : List Int × List Int :=
  let n := minAt s.2 (path c k) (reqs.getD k.toNat 0)
  (s.1.set k.toNat n, addAt s.2 (path c k) (-n))
def shareTo (c : Cable) (reqs : List Int) (ys : List Int) : List Int × List Int := ys.foldl (shareStep c reqs) (List.replicate c.nodes.length 0, lims c)
theorem shareTo_next {c : Cable} {reqs ys : List Int} {i : Nat} {k : Int} (hk : ys[i]? = some k) : shareTo c reqs (ys.take (i + 1)) = shareStep c reqs (shareTo c reqs (ys.take i)) k := by
  obtain ⟨hl, he⟩ := List.getElem?_eq_some_iff.1 hk
  rw [List.take_succ_eq_append_getElem hl, he, shareTo, List.foldl_append]
  rfl
theorem left_next {c : Cable} (hF : Fit c) {left : List Int} {k n : Int} (hl : ∀ z ∈ left, 0 ≤ z ∧ z ≤ 3932160) (hn : 0 ≤ n) (hle : ∀ y ∈ path c k, n ≤ left.getD y.toNat 0) (j : Nat) : ∀ z ∈ addAt left ((path c k).take j) (-n), 0 ≤ z ∧ z ≤ 3932160 := by
  induction j with
  | zero => simpa [addAt] using hl
  | succ j ih =>
    intro z hz
    cases hy : (path c k)[j]? with
    | none =>
      have : (path c k).length ≤ j := by simpa using hy
      rw [List.take_of_length_le (by omega)] at hz ih
      exact ih z hz
    | some y =>
      cases hx : (addAt left ((path c k).take j) (-n))[y.toNat]? with
      | none =>
        have hyl : (addAt left ((path c k).take j) (-n)).length ≤ y.toNat := by simpa using hx
        obtain ⟨hl1, he⟩ := List.getElem?_eq_some_iff.1 hy
        rw [List.take_succ_eq_append_getElem hl1, he, addAt, List.foldl_append] at hz
        simp only [List.foldl_cons, List.foldl_nil] at hz
        rw [show List.foldl (fun s (i : Int) => s.set i.toNat (s.getD i.toNat 0 + -n)) left ((path c k).take j) = addAt left ((path c k).take j) (-n) from rfl, List.set_eq_of_length_le hyl] at hz
        exact ih z hz
      | some x =>
        rw [addAt_take hy hx] at hz
        rcases List.mem_or_eq_of_mem_set hz with h | h
        · exact ih z h
        · have h1 := addAt_other (s := left) (n := -n) (path_take_ne hF hy)
          rw [hx] at h1
          have h2 := hle y (List.mem_of_getElem? hy)
          have h3 := hl x (List.mem_of_getElem? h1.symm)
          simp [List.getD, ← h1] at h2
          omega
theorem IsOrder.length {ranks ys : List Int} (h : IsOrder ranks ys) : ys.length = ranks.length := by have := h.1.length_eq; simpa using this
theorem IsOrder.mem {ranks ys : List Int} (h : IsOrder ranks ys) : ∀ y ∈ ys, 0 ≤ y ∧ y < ranks.length := by
  intro y hy
  have := (h.1.mem_iff).1 hy
  simp only [List.mem_map, List.mem_range] at this
  obtain ⟨i, hi, rfl⟩ := this
  omega
end Go.Cab
namespace Go.Proofs
open Go.Shelf
def Try.laysSort_ren : Go.Shelf.Ren := ⟨fun | 189 => 53 | 125 => 64 | 257 => 67 | 128 => 79 | 129 => 80 | 294 => 81 | 295 => 82 | 296 => 83 | 297 => 84 | 298 => 85 | 299 => 86 | 216 => 87 | 300 => 88 | 301 => 89 | 328 => 97 | 329 => 93 | 330 => 94 | 331 => 98 | 332 => 99 | 215 => 65 | 343 => 101 | n => n, fun | 28 => 33 | 3 => 3 | 46 => 97 | 0 => 0 | 51 => 109 | 53 => 111 | 4 => 4 | 183 => 103 | 182 => 102 | 131 => 77 | 5 => 5 | 9 => 9 | 218 => 120 | 222 => 124 | 228 => 128 | 229 => 129 | n => n, fun | n => n⟩
theorem Try.laysSort : Go.Proofs.Lays.n189 Try.prog Try.laysSort_ren := {
  mixed := by kernel_rfl
  f125 := Try.func64.trans (congrArg some (by kernel_rfl))
  f128 := Try.func79.trans (congrArg some (by kernel_rfl))
  f129 := Try.func80.trans (congrArg some (by kernel_rfl))
  f189 := Try.func53.trans (congrArg some (by kernel_rfl))
  f215 := Try.func65.trans (congrArg some (by kernel_rfl))
  f216 := Try.func87.trans (congrArg some (by kernel_rfl))
  f257 := Try.func67.trans (congrArg some (by kernel_rfl))
  f294 := Try.func81.trans (congrArg some (by kernel_rfl))
  f295 := Try.func82.trans (congrArg some (by kernel_rfl))
  f296 := Try.func83.trans (congrArg some (by kernel_rfl))
  f297 := Try.func84.trans (congrArg some (by kernel_rfl))
  f298 := Try.func85.trans (congrArg some (by kernel_rfl))
  f299 := Try.func86.trans (congrArg some (by kernel_rfl))
  f300 := Try.func88.trans (congrArg some (by kernel_rfl))
  f301 := Try.func89.trans (congrArg some (by kernel_rfl))
  f328 := Try.func97.trans (congrArg some (by kernel_rfl))
  f329 := Try.func93.trans (congrArg some (by kernel_rfl))
  f330 := Try.func94.trans (congrArg some (by kernel_rfl))
  f331 := Try.func98.trans (congrArg some (by kernel_rfl))
  f332 := Try.func99.trans (congrArg some (by kernel_rfl))
  f343 := Try.func101.trans (congrArg some (by kernel_rfl))
  t0 := Try.underlying0
  a0 := Try.isAgg0
  z0 := Try.sizeOf0
  v0 := Try.zeroValue0
  t3 := Try.underlying3
  a3 := Try.isAgg3
  z3 := Try.sizeOf3
  v3 := Try.zeroValue3
  t4 := Try.underlying4
  a4 := Try.isAgg4
  z4 := Try.sizeOf4
  v4 := Try.zeroValue4
  t5 := Try.underlying5
  a5 := Try.isAgg5
  z5 := Try.sizeOf5
  v5 := Try.zeroValue5
  t9 := Try.underlying9
  a9 := Try.isAgg9
  z9 := Try.sizeOf9
  v9 := Try.zeroValue9
  t28 := Try.underlying33
  a28 := Try.isAgg33
  z28 := Try.sizeOf33
  v28 := Try.zeroValue33
  t46 := Try.underlying97
  a46 := Try.isAgg97
  z46 := Try.sizeOf97
  v46 := Try.zeroValue97
  t51 := Try.underlying109
  a51 := Try.isAgg109
  z51 := Try.sizeOf109
  v51 := Try.zeroValue109
  t53 := Try.underlying111
  a53 := Try.isAgg111
  z53 := Try.sizeOf111
  v53 := Try.zeroValue111
  t131 := Try.underlying77
  a131 := Try.isAgg77
  z131 := Try.sizeOf77
  v131 := Try.zeroValue77
  t182 := Try.underlying102
  a182 := Try.isAgg102
  z182 := Try.sizeOf102
  v182 := Try.zeroValue102
  t183 := Try.underlying103
  a183 := Try.isAgg103
  z183 := Try.sizeOf103
  v183 := Try.zeroValue103
  t218 := Try.underlying120
  a218 := Try.isAgg120
  z218 := Try.sizeOf120
  v218 := Try.zeroValue120
  t222 := Try.underlying124
  a222 := Try.isAgg124
  z222 := Try.sizeOf124
  v222 := Try.zeroValue124
  t228 := Try.underlying128
  a228 := Try.isAgg128
  z228 := Try.sizeOf128
  v228 := Try.zeroValue128
  t229 := Try.underlying129
  a229 := Try.isAgg129
  z229 := Try.sizeOf129
  v229 := Try.zeroValue129 }
def Try.sortFunc45_ren : Go.Shelf.Ren := ⟨fun | 6 => 45 | 15 => 64 | 14 => 63 | 28 => 79 | 29 => 80 | 20 => 71 | 21 => 72 | 22 => 73 | 23 => 74 | 24 => 75 | 25 => 76 | 26 => 77 | 27 => 78 | 46 => 92 | 47 => 93 | 48 => 94 | 49 => 95 | 50 => 96 | 57 => 100 | n => n, fun | 22 => 33 | 24 => 3 | 25 => 87 | 3 => 3 | 39 => 97 | 0 => 0 | 53 => 109 | 55 => 111 | 4 => 4 | 46 => 103 | 45 => 102 | 50 => 77 | 5 => 5 | 9 => 9 | 66 => 120 | 70 => 124 | 76 => 128 | 77 => 129 | n => n, fun | n => n⟩
theorem Try.sortFunc45 : Go.Proofs.SlLaysF.n6 Try.prog Try.sortFunc45_ren := {
  mixed := by kernel_rfl
  f6 := ⟨Try.f45.name, by decide, Try.func45.trans (congrArg some (by kernel_rfl))⟩
  f14 := ⟨Try.f63.name, by decide, Try.func63.trans (congrArg some (by kernel_rfl))⟩
  f15 := Try.func64.trans (congrArg some (by kernel_rfl))
  f20 := ⟨Try.f71.name, by decide, Try.func71.trans (congrArg some (by kernel_rfl))⟩
  f21 := ⟨Try.f72.name, by decide, Try.func72.trans (congrArg some (by kernel_rfl))⟩
  f22 := ⟨Try.f73.name, by decide, Try.func73.trans (congrArg some (by kernel_rfl))⟩
  f23 := ⟨Try.f74.name, by decide, Try.func74.trans (congrArg some (by kernel_rfl))⟩
  f24 := ⟨Try.f75.name, by decide, Try.func75.trans (congrArg some (by kernel_rfl))⟩
  f25 := ⟨Try.f76.name, by decide, Try.func76.trans (congrArg some (by kernel_rfl))⟩
  f26 := ⟨Try.f77.name, by decide, Try.func77.trans (congrArg some (by kernel_rfl))⟩
  f27 := ⟨Try.f78.name, by decide, Try.func78.trans (congrArg some (by kernel_rfl))⟩
  f28 := Try.func79.trans (congrArg some (by kernel_rfl))
  f29 := Try.func80.trans (congrArg some (by kernel_rfl))
  f46 := ⟨Try.f92.name, by decide, Try.func92.trans (congrArg some (by kernel_rfl))⟩
  f47 := Try.func93.trans (congrArg some (by kernel_rfl))
  f48 := Try.func94.trans (congrArg some (by kernel_rfl))
  f49 := ⟨Try.f95.name, by decide, Try.func95.trans (congrArg some (by kernel_rfl))⟩
  f50 := ⟨Try.f96.name, by decide, Try.func96.trans (congrArg some (by kernel_rfl))⟩
  f57 := ⟨Try.f100.name, by decide, Try.func100.trans (congrArg some (by kernel_rfl))⟩
  t0 := Try.underlying0
  a0 := Try.isAgg0
  z0 := Try.sizeOf0
  v0 := Try.zeroValue0
  t3 := Try.underlying3
  a3 := Try.isAgg3
  z3 := Try.sizeOf3
  v3 := Try.zeroValue3
  t4 := Try.underlying4
  a4 := Try.isAgg4
  z4 := Try.sizeOf4
  v4 := Try.zeroValue4
  t5 := Try.underlying5
  a5 := Try.isAgg5
  z5 := Try.sizeOf5
  v5 := Try.zeroValue5
  t9 := Try.underlying9
  a9 := Try.isAgg9
  z9 := Try.sizeOf9
  v9 := Try.zeroValue9
  t22 := Try.underlying33
  a22 := Try.isAgg33
  z22 := Try.sizeOf33
  v22 := Try.zeroValue33
  a24 := Try.isAgg3
  z24 := Try.sizeOf3
  t25 := Try.underlying87
  a25 := Try.isAgg87
  z25 := Try.sizeOf87
  v25 := Try.zeroValue87
  t39 := Try.underlying97
  a39 := Try.isAgg97
  z39 := Try.sizeOf97
  v39 := Try.zeroValue97
  t45 := Try.underlying102
  a45 := Try.isAgg102
  z45 := Try.sizeOf102
  v45 := Try.zeroValue102
  t46 := Try.underlying103
  a46 := Try.isAgg103
  z46 := Try.sizeOf103
  v46 := Try.zeroValue103
  t50 := Try.underlying77
  a50 := Try.isAgg77
  z50 := Try.sizeOf77
  v50 := Try.zeroValue77
  t53 := Try.underlying109
  a53 := Try.isAgg109
  z53 := Try.sizeOf109
  v53 := Try.zeroValue109
  t55 := Try.underlying111
  a55 := Try.isAgg111
  z55 := Try.sizeOf111
  v55 := Try.zeroValue111
  t66 := Try.underlying120
  a66 := Try.isAgg120
  z66 := Try.sizeOf120
  v66 := Try.zeroValue120
  t70 := Try.underlying124
  a70 := Try.isAgg124
  z70 := Try.sizeOf124
  v70 := Try.zeroValue124
  t76 := Try.underlying128
  a76 := Try.isAgg128
  z76 := Try.sizeOf128
  v76 := Try.zeroValue128
  t77 := Try.underlying129
  a77 := Try.isAgg129
  z77 := Try.sizeOf129
  v77 := Try.zeroValue129 }
end Go.Proofs
namespace Go.Cab
open Go Go.J
set_option linter.unusedSimpArgs false
set_option linter.unusedVariables false
theorem flatMap_congr {α β : Type} {l : List α} {f g : α → List β} (h : ∀ x ∈ l, f x = g x) : l.flatMap f = l.flatMap g := by
  induction l with
  | nil => rfl
  | cons x l ih => rw [List.flatMap_cons, List.flatMap_cons, h x (List.mem_cons_self ..), ih (fun y hy => h y (List.mem_cons_of_mem _ hy))]
/-- the nodes that hang on k -/
def kidsOf (c : Cable) (k : Int) : List Int := (kids c).getD k.toNat []
theorem kidsUpto_get {c : Cable} (hF : Fit c) : ∀ (i k : Nat), i < c.nodes.length → k < c.nodes.length → (kidsUpto c i)[k]? = some (((List.range i).map fun j : Nat => ((j + 1 : Nat) : Int)).filter fun j => decide (c.par j.toNat = k)) := by
  intro i
  induction i with
  | zero => intro k _ hk; simp [kidsUpto, hk]
  | succ i ih =>
    intro k hi hk
    have hp := hF.par_lt (k := i + 1)
    have h0 : 0 ≤ c.par (i + 1) := by
      obtain ⟨n, hn⟩ : ∃ n, c.nodes[i + 1]? = some n := ⟨_, List.getElem?_eq_getElem hi⟩
      have := (Nd.good_props (hF.good _ n hn)).2.1 (by omega)
      simp only [Cable.par, hn]; omega
    have hl := kidsUpto_length c i
    rw [List.range_succ, List.map_append, List.filter_append]
    simp only [kidsUpto, kidStep, List.map_cons, List.map_nil]
    by_cases hk' : (c.par (i + 1)).toNat = k
    · have e : c.par (i + 1) = k := by omega
      rw [hk', List.getElem?_set_self (by omega)]
      have h2 := ih k (by omega) hk
      rw [List.getD, h2]
      simp [e]
    · have e : ¬ c.par (i + 1) = k := by omega
      rw [List.getElem?_set_ne hk', ih k (by omega) hk]
      simp [e]
theorem kidsOf_eq {c : Cable} (hF : Fit c) {k : Int} (hk : 0 ≤ k ∧ k < c.nodes.length) : kidsOf c k = ((List.range (c.nodes.length - 1)).map fun j : Nat => ((j + 1 : Nat) : Int)).filter fun j => decide (c.par j.toNat = k) := by
  have := kidsUpto_get hF (c.nodes.length - 1) k.toNat (by have := hF.pos; omega) (by omega)
  rw [kidsOf, kids, List.getD, this, Option.getD_some]
  congr 1
  funext j
  congr 2
  omega
theorem kidsOf_len {c : Cable} (hF : Fit c) {k : Int} (hk : 0 ≤ k ∧ k < c.nodes.length) : (kidsOf c k).length ≤ 60 := by
  rw [kidsOf_eq hF hk]
  have := List.length_filter_le (fun j : Int => decide (c.par j.toNat = k)) ((List.range (c.nodes.length - 1)).map fun j : Nat => ((j + 1 : Nat) : Int))
  simp only [List.length_map, List.length_range] at this
  have := hF.le
  omega
theorem kidsOf_mem {c : Cable} (hF : Fit c) {k j : Int} (hk : 0 ≤ k ∧ k < c.nodes.length) : j ∈ kidsOf c k ↔ (1 ≤ j ∧ j < c.nodes.length) ∧ c.par j.toNat = k := by
  rw [kidsOf_eq hF hk]
  simp only [List.mem_filter, List.mem_map, List.mem_range, decide_eq_true_eq]
  constructor
  · rintro ⟨⟨i, hi, rfl⟩, h⟩; exact ⟨by omega, h⟩
  · rintro ⟨h1, h2⟩; exact ⟨⟨(j - 1).toNat, by omega, by omega⟩, h2⟩
theorem kidsOf_gt {c : Cable} (hF : Fit c) {k j : Int} (hk : 0 ≤ k ∧ k < c.nodes.length) (hj : j ∈ kidsOf c k) : k < j ∧ j < c.nodes.length := by
  obtain ⟨h1, h2⟩ := (kidsOf_mem hF hk).1 hj
  have := hF.par_lt (k := j.toNat)
  omega
theorem kidsOf_nodup {c : Cable} (hF : Fit c) {k : Int} (hk : 0 ≤ k ∧ k < c.nodes.length) : (kidsOf c k).Nodup := by
  rw [kidsOf_eq hF hk]
  refine List.Nodup.sublist List.filter_sublist ?_
  rw [List.nodup_iff_pairwise_ne, List.pairwise_map]
  refine List.Pairwise.imp ?_ (List.nodup_iff_pairwise_ne.1 List.nodup_range)
  intro a b h; omega
/-- k and what hangs on it, each ahead of what hangs on it -/
def preGo (c : Cable) : Nat → Int → List Int
  | 0, _ => []
  | f + 1, k => k :: (kidsOf c k).flatMap (preGo c f)
def pre (c : Cable) (k : Int) : List Int := preGo c (c.nodes.length - k.toNat) k
theorem preGo_enough {c : Cable} (hF : Fit c) : ∀ (f : Nat) (k : Int), 0 ≤ k → k < c.nodes.length → c.nodes.length - k.toNat ≤ f → preGo c f k = pre c k := by
  have key : ∀ (m f g : Nat) (k : Int), 0 ≤ k → k < c.nodes.length → c.nodes.length - k.toNat ≤ m → c.nodes.length - k.toNat ≤ f → c.nodes.length - k.toNat ≤ g → preGo c f k = preGo c g k := by
    intro m
    induction m with
    | zero => intro f g k h0 h1 hm; omega
    | succ m ih =>
      intro f g k h0 h1 hm hf hg
      obtain ⟨f, rfl⟩ : ∃ f', f = f' + 1 := ⟨f - 1, by omega⟩
      obtain ⟨g, rfl⟩ : ∃ g', g = g' + 1 := ⟨g - 1, by omega⟩
      simp only [preGo]
      congr 1
      refine flatMap_congr (fun j hj => ?_)
      have := kidsOf_gt hF ⟨h0, h1⟩ hj
      exact ih f g j (by omega) (by omega) (by omega) (by omega) (by omega)
  exact fun f k h0 h1 hf => key _ _ _ _ h0 h1 (Nat.le_refl _) hf (Nat.le_refl _)
theorem pre_step {c : Cable} (hF : Fit c) {k : Int} (h0 : 0 ≤ k) (h1 : k < c.nodes.length) : pre c k = k :: (kidsOf c k).flatMap (pre c) := by
  obtain ⟨f, hf⟩ : ∃ f, c.nodes.length - k.toNat = f + 1 := ⟨c.nodes.length - k.toNat - 1, by omega⟩
  rw [pre, hf, preGo]
  congr 1
  refine flatMap_congr (fun j hj => ?_)
  have := kidsOf_gt hF ⟨h0, h1⟩ hj
  exact preGo_enough hF f j (by omega) (by omega) (by omega)
/-- the rest of a path -/
theorem path_rest {c : Cable} (hF : Fit c) {i a : Int} (h : a ∈ path c i) : ∃ l, path c i = l ++ path c a ∧ ∀ x ∈ l, a < x := by
  have key : ∀ (m : Nat) (i : Int), i < m → a ∈ path c i → ∃ l, path c i = l ++ path c a ∧ ∀ x ∈ l, a < x := by
    intro m
    induction m with
    | zero => intro i hi h; rw [path_neg (by omega)] at h; simp at h
    | succ m ih =>
      intro i hi h
      by_cases hn : i < 0
      · rw [path_neg hn] at h; simp at h
      · rw [path_step hF (by omega)] at h ⊢
        have hp := hF.par_lt (k := i.toNat)
        rcases List.mem_cons.1 h with rfl | h
        · exact ⟨[], by rw [← path_step hF (by omega)]; rfl, by simp⟩
        · obtain ⟨l, h1, h2⟩ := ih _ (by omega) h
          refine ⟨i :: l, by rw [h1]; rfl, fun x hx => ?_⟩
          rcases List.mem_cons.1 hx with rfl | hx
          · have := path_mem hF h; omega
          · exact h2 x hx
  exact key (i.toNat + 1) i (by omega) h
theorem path_sub {c : Cable} (hF : Fit c) {i a b : Int} (h : a ∈ path c i) (hb : b ∈ path c a) : b ∈ path c i := by
  obtain ⟨l, h1, _⟩ := path_rest hF h
  rw [h1]; exact List.mem_append_right _ hb
theorem path_below {c : Cable} (hF : Fit c) {i a b : Int} (ha : a ∈ path c i) (hb : b ∈ path c i) (hlt : b < a) : b ∈ path c (c.par a.toNat) := by
  obtain ⟨l, h1, h2⟩ := path_rest hF ha
  rw [h1] at hb
  rcases List.mem_append.1 hb with hb | hb
  · have := h2 b hb; omega
  · rw [path_step hF (path_mem hF ha).1] at hb
    rcases List.mem_cons.1 hb with rfl | hb
    · omega
    · exact hb
theorem path_self {c : Cable} (hF : Fit c) {i : Int} (h : 0 ≤ i) : i ∈ path c i := by rw [path_step hF h]; exact List.mem_cons_self ..
theorem path_pred {c : Cable} (hF : Fit c) {i k : Int} (h : k ∈ path c i) (hne : k ≠ i) : ∃ j ∈ path c i, c.par j.toNat = k := by
  have key : ∀ (m : Nat) (i : Int), i < m → k ∈ path c i → k ≠ i → ∃ j ∈ path c i, c.par j.toNat = k := by
    intro m
    induction m with
    | zero => intro i hi h; rw [path_neg (by omega)] at h; simp at h
    | succ m ih =>
      intro i hi h hne
      by_cases hn : i < 0
      · rw [path_neg hn] at h; simp at h
      · rw [path_step hF (by omega)] at h ⊢
        have hp := hF.par_lt (k := i.toNat)
        rcases List.mem_cons.1 h with rfl | h
        · exact absurd rfl hne
        · by_cases hk : k = c.par i.toNat
          · exact ⟨i, List.mem_cons_self .., hk.symm⟩
          · obtain ⟨j, h1, h2⟩ := ih _ (by omega) h hk
            exact ⟨j, List.mem_cons_of_mem _ h1, h2⟩
  exact key (i.toNat + 1) i (by omega) h hne
theorem mem_pre {c : Cable} (hF : Fit c) {i k : Int} (h0 : 0 ≤ k) (h1 : k < c.nodes.length) : i ∈ pre c k ↔ i < c.nodes.length ∧ k ∈ path c i := by
  have key : ∀ (m : Nat) (k : Int), 0 ≤ k → k < c.nodes.length → c.nodes.length - k.toNat ≤ m → (i ∈ pre c k ↔ i < c.nodes.length ∧ k ∈ path c i) := by
    intro m
    induction m with
    | zero => intro k h0 h1 hm; omega
    | succ m ih =>
      intro k h0 h1 hm
      rw [pre_step hF h0 h1]
      simp only [List.mem_cons, List.mem_flatMap]
      constructor
      · rintro (rfl | ⟨j, hj, hi⟩)
        · exact ⟨h1, path_self hF h0⟩
        · have hg := kidsOf_gt hF ⟨h0, h1⟩ hj
          obtain ⟨hin, hp⟩ := (ih j (by omega) (by omega) (by omega)).1 hi
          refine ⟨hin, path_sub hF hp ?_⟩
          rw [path_step hF (by omega), ((kidsOf_mem hF ⟨h0, h1⟩).1 hj).2]
          exact List.mem_cons_of_mem _ (path_self hF h0)
      · rintro ⟨hin, hp⟩
        by_cases hki : k = i
        · exact .inl hki.symm
        · obtain ⟨j, hj, hjk⟩ := path_pred hF hp hki
          have hjm := path_mem hF hj
          have hjp := hF.par_lt (k := j.toNat)
          have hjk' : j ∈ kidsOf c k := (kidsOf_mem hF ⟨h0, h1⟩).2 ⟨by omega, hjk⟩
          have hg := kidsOf_gt hF ⟨h0, h1⟩ hjk'
          exact .inr ⟨j, hjk', (ih j (by omega) (by omega) (by omega)).2 ⟨hin, hj⟩⟩
  exact key _ k h0 h1 (Nat.le_refl _)
theorem pre_nodup {c : Cable} (hF : Fit c) {k : Int} (h0 : 0 ≤ k) (h1 : k < c.nodes.length) : (pre c k).Nodup := by
  have key : ∀ (m : Nat) (k : Int), 0 ≤ k → k < c.nodes.length → c.nodes.length - k.toNat ≤ m → (pre c k).Nodup := by
    intro m
    induction m with
    | zero => intro k h0 h1 hm; omega
    | succ m ih =>
      intro k h0 h1 hm
      rw [pre_step hF h0 h1, List.nodup_cons]
      refine ⟨?_, ?_⟩
      · simp only [List.mem_flatMap, not_exists, not_and]
        intro j hj hi
        have hg := kidsOf_gt hF ⟨h0, h1⟩ hj
        have := ((mem_pre hF (by omega) hg.2).1 hi).2
        have := path_mem hF this
        omega
      · have hsub : ∀ l : List Int, (∀ j ∈ l, j ∈ kidsOf c k) → l.Nodup → (l.flatMap (pre c)).Nodup := by
          intro l
          induction l with
          | nil => intro _ _; simp
          | cons j l ihl =>
            intro hm' hn
            rw [List.flatMap_cons]
            obtain ⟨hj1, hj2⟩ := List.nodup_cons.1 hn
            have hg := kidsOf_gt hF ⟨h0, h1⟩ (hm' j (List.mem_cons_self ..))
            refine List.nodup_append.2 ⟨ih j (by omega) hg.2 (by omega), ihl (fun x hx => hm' x (List.mem_cons_of_mem _ hx)) hj2, ?_⟩
            intro a ha b hb hab
            subst hab
            obtain ⟨j', hj', hb'⟩ := List.mem_flatMap.1 hb
            have hg' := kidsOf_gt hF ⟨h0, h1⟩ (hm' j' (List.mem_cons_of_mem _ hj'))
            have e1 := ((mem_pre hF (by omega) hg.2).1 ha).2
            have e2 := ((mem_pre hF (by omega) hg'.2).1 hb').2
            have p1 := ((kidsOf_mem hF ⟨h0, h1⟩).1 (hm' j (List.mem_cons_self ..))).2
            have p2 := ((kidsOf_mem hF ⟨h0, h1⟩).1 (hm' j' (List.mem_cons_of_mem _ hj'))).2
            have hne : j ≠ j' := fun e => hj1 (e ▸ hj')
            rcases Int.lt_or_gt_of_ne hne with h | h
            · have := path_mem hF (path_below hF e2 e1 h); omega
            · have := path_mem hF (path_below hF e1 e2 h); omega
        exact hsub _ (fun _ h => h) (kidsOf_nodup hF ⟨h0, h1⟩)
  exact key _ k h0 h1 (Nat.le_refl _)
/-- the subtree of a node, ascending -/
def subtree (c : Cable) (k : Int) : List Int := ((List.range c.nodes.length).map fun i : Nat => (i : Int)).filter fun i => decide (k ∈ path c i)
theorem pre_sorted {c : Cable} (hF : Fit c) {k : Int} (h0 : 0 ≤ k) (h1 : k < c.nodes.length) : ((pre c k).mergeSort fun x y => decide (x ≤ y)) = subtree c k := by
  have hp1 : ((pre c k).mergeSort fun x y => decide (x ≤ y)).Perm (pre c k) := List.mergeSort_perm _ _
  have hs1 : ((pre c k).mergeSort fun x y => decide (x ≤ y)).Pairwise (fun x y => decide (x ≤ y) = true) := List.pairwise_mergeSort (fun a b c h1 h2 => by simp at *; omega) (fun a b => by simp; omega) _
  have hnd : (subtree c k).Pairwise (fun x y => x < y) := by
    refine List.Pairwise.sublist List.filter_sublist ?_
    rw [List.pairwise_map]
    exact List.pairwise_lt_range.imp (fun h => by omega)
  have hp2 : (subtree c k).Perm (pre c k) := by
    refine (List.perm_ext_iff_of_nodup (hnd.imp (fun h => by omega)) (pre_nodup hF h0 h1)).2 (fun i => ?_)
    rw [mem_pre hF h0 h1]
    simp only [subtree, List.mem_filter, List.mem_map, List.mem_range, decide_eq_true_eq]
    constructor
    · rintro ⟨⟨j, hj, rfl⟩, h⟩; exact ⟨by omega, h⟩
    · rintro ⟨h, h'⟩; have := path_mem hF h'; exact ⟨⟨i.toNat, by omega, by omega⟩, h'⟩
  have hs2 : ((pre c k).mergeSort fun x y => decide (x ≤ y)).Pairwise (fun x y : Int => x ≤ y) := hs1.imp (fun h => of_decide_eq_true h)
  have hs3 : (subtree c k).Pairwise (fun x y : Int => x ≤ y) := hnd.imp (fun h => Int.le_of_lt h)
  exact (hp1.trans hp2.symm).eq_of_pairwise (fun a b _ _ h1 h2 => Int.le_antisymm h1 h2) hs2 hs3
theorem _root_.Go.J.Sl.app (s : Sl) {a' : Option Addr} {c' : Nat} {k : Int} {M : List Res} : Upd (s.grow :: M) (rowG 3 1 s.a s.n s.c (s.xs.map I64)) ((⟨a', s.n + 1, c', s.xs ++ [k]⟩ : Sl).grow :: M) (rowG 3 1 a' (s.n + 1) c' (s.xs.map I64 ++ [I64 k])) := by
  have : Upd (s.grow :: M) s.grow ((⟨a', s.n + 1, c', s.xs ++ [k]⟩ : Sl).grow :: M) (⟨a', s.n + 1, c', s.xs ++ [k]⟩ : Sl).grow := .here
  have e : (⟨a', s.n + 1, c', s.xs ++ [k]⟩ : Sl).grow = rowG 3 1 a' (s.n + 1) c' (s.xs.map I64 ++ [I64 k]) := by simp [Sl.grow]
  rw [e] at this ⊢
  exact this
/-- the list that is grown, and the variable that holds it -/
def outR (b : Nat) (s : Sl) : Res := sep (bx b 33 [s.val]) s.grow
theorem _root_.Go.J.St.joinO {w₀ w : World} {F : Nat → Prop} {b : Nat} {s : Sl} {M Φ : List Res} (h : St w₀ F (bx b 33 [s.val] :: s.grow :: M) Φ w) : St w₀ F (outR b s :: M) Φ w := h.join
theorem pre_len {c : Cable} (hF : Fit c) {k : Int} (h0 : 0 ≤ k) (h1 : k < c.nodes.length) {i : Nat} {j : Int} (hj : (kidsOf c k)[i]? = some j) : 1 + (((kidsOf c k).take i).flatMap (pre c)).length + (pre c j).length ≤ (pre c k).length := by
  obtain ⟨hl, he⟩ := List.getElem?_eq_some_iff.1 hj
  have h2 : kidsOf c k = (kidsOf c k).take i ++ j :: (kidsOf c k).drop (i + 1) := by
    rw [← he, List.getElem_cons_drop, List.take_append_drop]
  rw [pre_step hF h0 h1]
  conv => rhs; rw [h2]
  simp only [List.length_cons, List.flatMap_append, List.length_append, List.flatMap_cons]
  omega
theorem pre_take {c : Cable} {k j : Int} {i : Nat} {xs ys : List Int} (hj : (kidsOf c k)[i]? = some j) (hx : ys = xs ++ [k] ++ ((kidsOf c k).take i).flatMap (pre c)) : ys ++ pre c j = xs ++ [k] ++ ((kidsOf c k).take (i + 1)).flatMap (pre c) := by
  obtain ⟨hl, he⟩ := List.getElem?_eq_some_iff.1 hj
  rw [List.take_succ_eq_append_getElem hl, he, hx]
  simp
theorem pre_all {c : Cable} (hF : Fit c) {k : Int} (h0 : 0 ≤ k) (h1 : k < c.nodes.length) {i : Nat} {xs ys : List Int} (hi : (kidsOf c k).length ≤ i) (hx : ys = xs ++ [k] ++ ((kidsOf c k).take i).flatMap (pre c)) : ys = xs ++ pre c k := by
  rw [hx, pre_step hF h0 h1, List.take_of_length_le hi]
  simp
theorem pre_len60 {c : Cable} (hF : Fit c) {k : Int} (h0 : 0 ≤ k) (h1 : k < c.nodes.length) : (pre c k).length ≤ 60 := by
  have hp : (pre c k).length = (subtree c k).length := by rw [← pre_sorted hF h0 h1]; simp
  rw [hp]
  have := List.length_filter_le (fun i => decide (k ∈ path c i)) ((List.range c.nodes.length).map fun i : Nat => (i : Int))
  simp only [List.length_map, List.length_range] at this
  have := hF.le
  unfold subtree; omega
/-- what a tree is that has been opened -/
def Opened (c : Cable) (t : Tree) : Prop := t.ss.map (·.xs) = kids c ∧ ∀ s ∈ t.ss, s.n = s.xs.length
theorem Opened.get {c : Cable} {t : Tree} (h : Opened c t) {k : Int} (h0 : 0 ≤ k) (h1 : k < c.nodes.length) : ∃ s, t.ss[k.toNat]? = some s ∧ s.xs = kidsOf c k ∧ s.n = (kidsOf c k).length := by
  have hl : t.ss.length = c.nodes.length := by rw [← List.length_map (f := (·.xs)), h.1, kids, kidsUpto_length]
  obtain ⟨s, hs⟩ : ∃ s, t.ss[k.toNat]? = some s := ⟨_, List.getElem?_eq_getElem (by omega)⟩
  have hx : s.xs = kidsOf c k := by
    rw [kidsOf, ← h.1]; simp [List.getD, hs]
  exact ⟨s, hs, hx, by rw [← hx]; exact h.2 s (List.mem_of_getElem? hs)⟩
theorem _root_.Go.J.St.addPure {w₀ w : World} {F : Nat → Prop} {M Φ : List Res} {q : Prop} (h : St w₀ F M Φ w) (hq : q) : St w₀ F (pureR q :: M) Φ w :=
  ⟨h.eff, fun r hr => by
    rcases List.mem_cons.1 hr with rfl | hr
    · exact ⟨hq, fun b hb => hb.elim⟩
    · exact h.own_ r hr, .cons (fun r _ b hb => hb.elim) h.apart, fun i hi => let ⟨a, b, c⟩ := h.imm i hi; ⟨a, b, fun s hs => by
    rcases List.mem_cons.1 hs with rfl | hs
    · exact fun b hb => hb.elim
    · exact c s hs⟩⟩
theorem take_snoc {l xs : List Int} {j : Nat} {y : Int} (hy : l[j]? = some y) (hx : xs = l.take j) : xs ++ [y] = l.take (j + 1) := by
  obtain ⟨hl, he⟩ := List.getElem?_eq_some_iff.1 hy
  rw [List.take_succ_eq_append_getElem hl, he, hx]
/-- what the state tells without a world -/
theorem _root_.Go.J.J.know {r : Option Nat} {P : Program} {N : Nat} {ops : Array Oper} {Q : Exit → Act → World → Prop} {rest : List Oper} {D : List Deferred} {L : List (Nat × Value)} {A : World → Prop} {p : Prop} (hp : ∀ w, A w → p) (h : p → J r P N ops Q rest D L A) : J r P N ops Q rest D L A := fun a w hf hA => h (hp w hA) a w hf hA
end Go.Cab
