/- The plain law, first part: what the reference's functions compute. The plain law, second part: orders, sums and shares. The plain law, third part: the reference's shares are the program's; the examples; CableShares. -/
import Derived.Test.YtafghgomhjeabaaC8
set_option linter.unusedVariables false
set_option linter.unusedSimpArgs false
namespace Go.Proofs
open Go Go.J Go.RowKit Go.Cab
set_option linter.unusedSimpArgs false
set_option linter.unusedVariables false
theorem sel_pos {α : Type} {b : Bool} {x y : Option α} (h : b = true) : sel b x y = x := by subst h; rfl
theorem sel_neg {α : Type} {b : Bool} {x y : Option α} (h : b = false) : sel b x y = y := by subst h; rfl
theorem ix_nat {α X : Type} {xs : List X} {i : Nat} {x : X} {k : X → Option α} (hx : xs[i]? = some x) : ix xs (i : Int) k = k x := ix_of (by omega) (by simpa using hx)
theorem ix_int {α X : Type} {xs : List X} {i : Int} {x : X} {k : X → Option α} (h0 : 0 ≤ i) (hx : xs[i.toNat]? = some x) : ix xs i k = k x := ix_of h0 hx
/-- a loop over numbers -/
theorem iter_run {σ τ : Type} {f : σ → Option (σ ⊕ τ)} (n : Nat) (S : Nat → σ) {t : τ} (step : ∀ i, i < n → f (S i) = some (.inl (S (i + 1)))) (last : f (S n) = some (.inr t)) : iter f (S 0) = some t := by
  have key : ∀ k, k ≤ n → iter f (S (n - k)) = some t := by
    intro k
    induction k with
    | zero => intro _; exact iter_last last
    | succ k ih =>
      intro hk
      have h1 := step (n - (k + 1)) (by omega)
      rw [show n - (k + 1) + 1 = n - k by omega] at h1
      exact iter_next h1 (ih (by omega))
  have := key n (Nat.le_refl _)
  rwa [Nat.sub_self] at this
theorem loop_run {σ τ α : Type} {f : σ → Option (σ ⊕ τ)} {s0 : σ} {k : τ → Option α} {r : Option α} (n : Nat) (S : Nat → σ) (t : τ) (h0 : s0 = S 0) (step : ∀ i, i < n → f (S i) = some (.inl (S (i + 1)))) (last : f (S n) = some (.inr t)) (hk : k t = r) : bd (iter f s0) k = r := by
  subst h0
  rw [bd_of (iter_run n S step last)]; exact hk
theorem nat_lt {i n : Nat} (h : i < n) : (decide ((i : Int) < (n : Int))) = true := by simpa using h
theorem nat_nlt {n : Nat} : (decide ((n : Int) < (n : Int))) = false := by simp
theorem i64_nat {i : Nat} (h : i < 1000000000) : I64ok ((i : Int) + 1) := ⟨by omega, by omega⟩
theorem cast_succ (i : Nat) : ((i : Int) + 1) = ((i + 1 : Nat) : Int) := by simp
/-- two lists are compared -/
theorem eq_loop {a b : List Int} (hl : a.length = b.length) (hn : a.length < 1000000000) :
    iter (σ := Int) (τ := (Int ⊕ Bool)) (fun v11 => sel (decide (v11 < (a.length : Int))) (ix a v11 fun x18 => (ix b v11 fun x21 => (sel (decide (x18 ≠ x21)) (some (.inr (.inr (false)))) (ck (I64ok (v11 + (1 : Int))) (some (.inl (v11 + (1 : Int)))))))) (some (.inr (.inl v11)))) (0 : Int) = some (if a = b then .inl (a.length : Int) else .inr false) := by
  refine iter_eq (fun v : Int => ∃ i : Nat, v = i ∧ i ≤ a.length ∧ a.take i = b.take i) (fun v : Int => a.length - v.toNat) _ ?_ ⟨0, rfl, Nat.zero_le _, by simp⟩
  rintro v ⟨i, rfl, hi, ht⟩
  by_cases hlt : i < a.length
  · obtain ⟨x, hx⟩ := get_lt hlt
    obtain ⟨y, hy⟩ := get_lt (xs := b) (i := i) (by omega)
    rw [sel_pos (nat_lt hlt), ix_nat hx, ix_nat hy]
    by_cases hxy : x = y
    · left
      subst hxy
      refine ⟨((i + 1 : Nat) : Int), ?_, ⟨i + 1, rfl, hlt, ?_⟩, by simp; omega⟩
      · rw [sel_neg (by simp), ck_pos (i64_nat (by omega)), cast_succ]
      · obtain ⟨h1, e1⟩ := List.getElem?_eq_some_iff.1 hx
        obtain ⟨h2, e2⟩ := List.getElem?_eq_some_iff.1 hy
        rw [List.take_succ_eq_append_getElem h1, List.take_succ_eq_append_getElem h2, ht, e1, e2]
    · right
      rw [sel_pos (by simpa using hxy), if_neg]
      intro e; subst e
      rw [hx] at hy; exact hxy (Option.some.inj hy)
  · right
    have : i = a.length := by omega
    subst this
    rw [sel_neg nat_nlt, if_pos]
    rwa [List.take_of_length_le (Nat.le_refl _), List.take_of_length_le (by omega)] at ht
theorem longs_eq {a b : List Int} (hn : a.length < 1000000000) : F_longs a b = some (decide (a = b)) := by
  unfold F_longs
  by_cases hl : a.length = b.length
  · rw [sel_neg (by simp [hl]), eq_loop hl hn]
    by_cases h : a = b <;> simp [h]
  · rw [sel_pos (by simp; omega)]
    have : a ≠ b := fun e => hl (by rw [e])
    simp [this]
theorem ints_eq {a b : List Int} (hn : a.length < 1000000000) : F_ints a b = some (decide (a = b)) := longs_eq hn
theorem rspan_eq (s : Span) (lo hi : Int) : F_rspan s lo hi = some (s.within lo hi) := by
  have h1 : F_rCheck1 s = some (if s.bad = true then 2 else 0) := by
    unfold F_rCheck1 F_rValid F_rWithin
    by_cases a1 : s.lo ≤ s.hi
    · by_cases a2 : -1073741824 ≤ s.lo
      · by_cases a3 : s.lo ≤ 1073741824
        · by_cases a4 : -1073741824 ≤ s.hi <;> by_cases a5 : s.hi ≤ 1073741824 <;> simp [a1, a2, a3, a4, a5, Span.bad] <;> omega
        · simp [a1, a2, a3, Span.bad]; omega
      · simp [a1, a2, Span.bad]
        try omega
    · simp [a1, Span.bad]
      try omega
  unfold F_rspan
  rw [h1, bd_some']
  unfold Span.within
  cases hb : s.bad <;> simp
theorem rnode_eq (n : Nd) (k : Nat) : F_rnode n k = some (n.good k) := by
  unfold F_rnode
  have fin : ∀ (b : Bool), (if k = 0 then decide (n.parent = -1) && decide (n.ohms.lo = 0) && decide (n.ohms.hi = 0) && decide (n.delay = -1) else decide (0 ≤ n.parent) && decide (n.parent < k)) = b → b = true → (bd (F_rspan (n.ohms) ((0 : Int)) ((16777216 : Int))) fun r11 => (bdg (((r11 && (decide ((0 : Int) ≤ n.limit))) && (decide (n.limit ≤ (3932160 : Int)))) == true) (F_rspan (n.load) ((0 : Int)) ((65536 : Int))) fun r13 => (some ((((((((r11 && (decide ((0 : Int) ≤ n.limit))) && (decide (n.limit ≤ (3932160 : Int)))) && r13) && (decide ((0 : Int) ≤ n.least))) && (decide (n.least ≤ (67108864 : Int)))) && (decide ((-1 : Int) ≤ n.delay))) && (decide (n.delay ≤ (1048576 : Int)))))))) = some (n.good k) := by
    intro b h1 h2
    rw [rspan_eq, rspan_eq, bd_some']
    unfold Nd.good
    rw [h1, h2]
    cases hb : (n.ohms.within 0 16777216 && decide (0 ≤ n.limit) && decide (n.limit ≤ 3932160)) with
    | true =>
      simp only [Bool.and_eq_true] at hb
      obtain ⟨⟨h3, h4⟩, h5⟩ := hb
      simp [h3, h4, h5, bdg]
    | false =>
      simp [bdg]
      cases h3 : n.ohms.within 0 16777216 <;> simp [h3] at hb ⊢
      cases h4 : n.load.within 0 65536 <;> simp
      intro h5 h6; have := hb h5; omega
  by_cases hk : k = 0
  · subst hk
    rw [sel_pos (by simp)]
    by_cases hc : n.parent = -1 ∧ n.ohms.lo = 0 ∧ n.ohms.hi = 0 ∧ n.delay = -1
    · obtain ⟨a, b, d, e⟩ := hc
      rw [sel_neg (by simp [a, b, d, e, Span.eqb])]
      exact fin true (by simp [a, b, d, e]) rfl
    · rw [sel_pos (by simp only [Span.eqb]; simp; omega)]
      simp [Nd.good]
      intro a b d e; exact absurd ⟨a, b, d, e⟩ hc
  · rw [sel_neg (by simp; omega)]
    by_cases hc : 0 ≤ n.parent ∧ n.parent < k
    · rw [sel_neg (by simp; omega)]
      exact fin true (by simp [hk, hc]) rfl
    · rw [sel_pos (by simp; omega)]
      simp [Nd.good, hk]
      intro a b; exact absurd ⟨a, b⟩ hc
theorem rCheck_eq (c : Cable) : F_rCheck c = some c.check := by
  unfold F_rCheck
  by_cases h60 : 60 < c.nodes.length
  · rw [sel_pos (by simp; omega), check_many h60]
  · rw [sel_neg (by simp; omega)]
    by_cases h0 : c.nodes.length = 0
    · rw [check_none h60 (.inl h0)]
      simp [h0]
    · have e1 : ((decide ((c.nodes.length : Int) = (0 : Int))) == false) = true := by simp [h0]
      rw [e1, bdg_true, rspan_eq, bd_some']
      cases hs : c.supply.within 0 67108864 with
      | false => rw [check_none h60 (.inr hs)]; simp
      | true =>
        rw [sel_neg (by simp [h0])]
        by_cases hg : ∀ (i : Nat) (n : Nd), c.nodes[i]? = some n → n.good i = true
        · rw [check_ok h60 (by simp [h0, hs]) hg]
          refine loop_run c.nodes.length (fun i => (i : Int)) (.inl (c.nodes.length : Int)) rfl (fun i hi => ?_) (sel_neg nat_nlt) rfl
          obtain ⟨n, hn⟩ := get_lt hi
          rw [sel_pos (nat_lt hi), ix_nat hn, rnode_eq, bd_some', hg i n hn, sel_neg (by rfl), ck_pos (i64_nat (by omega)), cast_succ]
        · have : ∃ (i : Nat) (n : Nd), c.nodes[i]? = some n ∧ n.good i = false := by
            apply Classical.byContradiction
            intro h
            apply hg
            intro i n hn
            cases hb : n.good i with
            | true => rfl
            | false => exact absurd ⟨i, n, hn, hb⟩ h
          obtain ⟨i, ⟨n, hn, hb⟩, hmin⟩ := least (p := fun i => ∃ n : Nd, c.nodes[i]? = some n ∧ n.good i = false) this.choose_spec
          have hil := (List.getElem?_eq_some_iff.1 hn).1
          rw [check_bad h60 hn hb]
          refine loop_run i (fun i => (i : Int)) (.inr 2) rfl (fun j hj => ?_) ?_ rfl
          · obtain ⟨m, hm⟩ := get_lt (xs := c.nodes) (i := j) (by omega)
            have hg2 : m.good j = true := by
              cases hb2 : m.good j with
              | true => rfl
              | false => exact absurd (hmin j ⟨m, hm, hb2⟩) (by omega)
            rw [sel_pos (nat_lt (by omega)), ix_nat hm, rnode_eq, bd_some', hg2, sel_neg (by rfl), ck_pos (i64_nat (by omega)), cast_succ]
          · rw [sel_pos (nat_lt hil), ix_nat hn, rnode_eq, bd_some', hb, sel_pos (by rfl)]
theorem rpath_eq {c : Cable} (hF : Fit c) {k : Int} (h1 : k < c.nodes.length) : F_rpath c k = some (path c k) := by
  unfold F_rpath
  have h60 := hF.le
  have hpl := path_length hF (k := k) (by omega)
  have hst : ∀ s : List Int × Int, (s.1 ++ path c s.2 = path c k ∧ s.2 < c.nodes.length) → (∃ s', (fun x : List Int × Int => match x with | (v10, v13) => sel (decide ((0 : Int) ≤ v13)) (ck ((v10 ++ [v13]).length ≤ 68719476736) (ix c.nodes v13 fun x24 => (some (Sum.inl ((v10 ++ [v13]), x24.parent))))) (some (Sum.inr (v10, v13)))) s = some (.inl s') ∧ (s'.1 ++ path c s'.2 = path c k ∧ s'.2 < c.nodes.length) ∧ (s'.2 + 1).toNat < (s.2 + 1).toNat) ∨ ∃ t : List Int × Int, (fun x : List Int × Int => match x with | (v10, v13) => sel (decide ((0 : Int) ≤ v13)) (ck ((v10 ++ [v13]).length ≤ 68719476736) (ix c.nodes v13 fun x24 => (some (Sum.inl ((v10 ++ [v13]), x24.parent))))) (some (Sum.inr (v10, v13)))) s = some (.inr t) ∧ t.1 = path c k := by
    rintro ⟨out, j⟩ ⟨hp, hj⟩
    simp only at hp hj ⊢
    by_cases h0 : 0 ≤ j
    · left
      obtain ⟨n, hn⟩ := get_lt (xs := c.nodes) (i := j.toNat) (by omega)
      have hpar : c.par j.toNat = n.parent := by simp [Cable.par, hn]
      have hlt := hF.par_lt (k := j.toNat)
      rw [path_step hF h0, hpar] at hp
      have hlen : (out ++ [j]).length ≤ 60 := by
        have := congrArg List.length hp
        simp only [List.length_append, List.length_cons] at this ⊢
        simp; omega
      refine ⟨(out ++ [j], n.parent), ?_, ⟨by simpa using hp, by simp only; omega⟩, by simp only; omega⟩
      rw [sel_pos (by simpa using h0), ck_pos (by omega), ix_int h0 hn]
    · right
      refine ⟨(out, j), by rw [sel_neg (by simpa using h0)], ?_⟩
      rw [path_neg (by omega)] at hp
      simpa using hp
  obtain ⟨t, ht, hq⟩ := iter_inv _ _ _ hst (s := ([], k)) ⟨by simp, h1⟩
  rw [bd_of ht]
  obtain ⟨t1, t2⟩ := t
  simpa using hq
theorem rHas_eq {l : List Int} (hl : l.length < 1000000000) (x : Int) : F_rHas l x = some (decide (x ∈ l)) := by
  unfold F_rHas
  by_cases h : x ∈ l
  · obtain ⟨i0, hi0, he⟩ := List.getElem_of_mem h
    obtain ⟨i, hi, hmin⟩ := least (p := fun i => l[i]? = some x) (n := i0) (by rw [List.getElem?_eq_getElem hi0, he])
    have hil := (List.getElem?_eq_some_iff.1 hi).1
    refine loop_run i (fun i => (i : Int)) (.inr true) rfl (fun j hj => ?_) ?_ (by simp [h])
    · obtain ⟨y, hy⟩ := get_lt (xs := l) (i := j) (by omega)
      have hne : y ≠ x := fun e => by subst e; exact absurd (hmin j hy) (by omega)
      rw [sel_pos (nat_lt (by omega)), ix_nat hy, sel_neg (by simpa using hne), ck_pos (i64_nat (by omega)), cast_succ]
    · rw [sel_pos (nat_lt hil), ix_nat hi, sel_pos (by simp)]
  · refine loop_run l.length (fun i => (i : Int)) (.inl (l.length : Int)) rfl (fun j hj => ?_) (sel_neg nat_nlt) (by simp [h])
    · obtain ⟨y, hy⟩ := get_lt hj
      have hne : y ≠ x := fun e => by subst e; exact h (List.mem_of_getElem? hy)
      rw [sel_pos (nat_lt hj), ix_nat hy, sel_neg (by simpa using hne), ck_pos (i64_nat (by omega)), cast_succ]
def subTo (c : Cable) (k : Int) (i : Nat) : List Int := ((List.range i).map fun i : Nat => (i : Int)).filter fun i => decide (k ∈ path c i)
theorem subTo_succ (c : Cable) (k : Int) (i : Nat) : subTo c k (i + 1) = if k ∈ path c i then subTo c k i ++ [(i : Int)] else subTo c k i := by
  unfold subTo
  rw [List.range_succ, List.map_append, List.filter_append]
  by_cases h : k ∈ path c i <;> simp [h]
theorem subTo_len (c : Cable) (k : Int) (i : Nat) : (subTo c k i).length ≤ i := by
  have := List.length_filter_le (fun i => decide (k ∈ path c i)) ((List.range i).map fun i : Nat => (i : Int))
  simpa [subTo] using this
theorem rsubtree_eq {c : Cable} (hF : Fit c) (k : Int) : F_rsubtree c k = some (subtree c k) := by
  unfold F_rsubtree
  have h60 := hF.le
  refine loop_run c.nodes.length (fun i => ((i : Int), subTo c k i)) ((c.nodes.length : Int), subTo c k c.nodes.length) rfl (fun i hi => ?_) ?_ rfl
  · have hl := subTo_len c k i
    have hpl := path_length hF (k := (i : Int)) (by omega)
    dsimp only
    rw [sel_pos (nat_lt hi), rpath_eq hF (by omega), bd_some', rHas_eq (by omega), bd_some', subTo_succ]
    by_cases h : k ∈ path c i
    · rw [sel_pos (by simpa using h), ck_pos (by simp; omega), ck_pos (i64_nat (by omega)), if_pos h, cast_succ]
    · rw [sel_neg (by simpa using h), ck_pos (i64_nat (by omega)), if_neg h, cast_succ]
  · exact sel_neg nat_nlt
/-- what a segment carries -/
def carr (c : Cable) (g : List Int) (k : Int) : Int := ((subtree c k).map fun i => g.getD i.toNat 0).sum
theorem subtree_mem {c : Cable} {k x : Int} : x ∈ subtree c k ↔ (0 ≤ x ∧ x < c.nodes.length) ∧ k ∈ path c x := by
  simp only [subtree, List.mem_filter, List.mem_map, List.mem_range, decide_eq_true_eq]
  constructor
  · rintro ⟨⟨j, hj, rfl⟩, h⟩; exact ⟨by omega, h⟩
  · rintro ⟨h, h'⟩; exact ⟨⟨x.toNat, by omega, by omega⟩, h'⟩
theorem sum_bound {B : Int} (hB : 0 ≤ B) : ∀ {l : List Int}, (∀ x ∈ l, -B ≤ x ∧ x ≤ B) → -(B * l.length) ≤ l.sum ∧ l.sum ≤ B * l.length
  | [], _ => by simp
  | x :: l, h => by
    have h1 := h x (List.mem_cons_self ..)
    have h2 := sum_bound hB (l := l) (fun y hy => h y (List.mem_cons_of_mem _ hy))
    simp only [List.sum_cons, List.length_cons]
    simp only [Int.natCast_add, Int.natCast_one, Int.mul_add]
    omega
theorem sum_loop {c : Cable} {g l : List Int} (hl : ∀ x ∈ l, 0 ≤ x ∧ x < (g.length : Int)) (hll : l.length ≤ 1000) (hg : ∀ x ∈ g, -1000000000 ≤ x ∧ x ≤ 1000000000) :
    iter (σ := (Int × Int)) (τ := (Int × Int)) (fun (v15, v16) => sel (decide (v15 < (l.length : Int))) (ix l v15 fun x23 => (ix g x23 fun x26 => (ck (I64ok (v16 + x26)) (ck (I64ok (v15 + (1 : Int))) (some (.inl ((v15 + (1 : Int)), (v16 + x26)))))))) (some (.inr (v15, v16)))) ((0 : Int), (0 : Int)) = some ((l.length : Int), (l.map fun i => g.getD i.toNat 0).sum) := by
  have := iter_run (f := fun x : Int × Int => match x with | (v15, v16) => sel (decide (v15 < (l.length : Int))) (ix l v15 fun x23 => (ix g x23 fun x26 => (ck (I64ok (v16 + x26)) (ck (I64ok (v15 + (1 : Int))) (some (.inl ((v15 + (1 : Int)), (v16 + x26)))))))) (some (.inr (v15, v16)))) l.length (fun i => ((i : Int), ((l.take i).map fun i => g.getD i.toNat 0).sum)) (t := ((l.length : Int), (l.map fun i => g.getD i.toNat 0).sum)) (fun i hi => ?_) ?_
  · simpa using this
  · obtain ⟨x, hx⟩ := get_lt hi
    have hxb := hl x (List.mem_of_getElem? hx)
    obtain ⟨y, hy⟩ := get_lt (xs := g) (i := x.toNat) (by omega)
    have hyb := hg y (List.mem_of_getElem? hy)
    have hs := sum_bound (B := 1000000000) (by omega) (l := (l.take i).map fun i => g.getD i.toNat 0) (fun z hz => by
      obtain ⟨j, hj, rfl⟩ := List.mem_map.1 hz
      have hjb := hl j (List.mem_of_mem_take hj)
      obtain ⟨z, hz⟩ := get_lt (xs := g) (i := j.toNat) (by omega)
      have := hg z (List.mem_of_getElem? hz)
      simp only [List.getD, hz, Option.getD_some]; exact this)
    simp only [List.length_map, List.length_take] at hs
    have hm : min i l.length = i := by omega
    rw [hm] at hs
    have hsum : ((l.take (i + 1)).map fun i => g.getD i.toNat 0).sum = ((l.take i).map fun i => g.getD i.toNat 0).sum + y := by
      obtain ⟨h1, e1⟩ := List.getElem?_eq_some_iff.1 hx
      rw [List.take_succ_eq_append_getElem h1, List.map_append, List.sum_append, e1]
      simp [List.getD, hy]
    dsimp only
    rw [sel_pos (nat_lt hi), ix_nat hx, ix_int hxb.1 hy, ck_pos ⟨by omega, by omega⟩, ck_pos (i64_nat (by omega)), hsum, cast_succ]
  · dsimp only
    rw [sel_neg nat_nlt, List.take_of_length_le (Nat.le_refl _)]
theorem rcarried_eq {c : Cable} (hF : Fit c) {g : List Int} (hl : g.length = c.nodes.length) (hg : ∀ x ∈ g, -1000000000 ≤ x ∧ x ≤ 1000000000) (k : Int) : F_rcarried c g k = some (carr c g k) := by
  unfold F_rcarried
  rw [rsubtree_eq hF, bd_some', bd_of (sum_loop (c := c) (fun x hx => by have := (subtree_mem.1 hx).1; omega) (by have := subtree_len60 hF k; omega) hg)]
  rfl
end Go.Proofs
namespace Go.Proofs
open Go Go.J Go.RowKit Go.Cab
set_option linter.unusedSimpArgs false
set_option linter.unusedVariables false
/-! the order -/
def OrdTo (ranks : List Int) (i : Nat) (ys : List Int) : Prop := ys.Perm ((List.range i).map fun i : Nat => (i : Int)) ∧ ys.Pairwise (fun x y => ¬ taken ranks y x)
theorem OrdTo.mem {ranks ys : List Int} {i : Nat} (h : OrdTo ranks i ys) {y : Int} (hy : y ∈ ys) : 0 ≤ y ∧ y < i := by
  have := (h.1.mem_iff).1 hy
  obtain ⟨j, hj, rfl⟩ := List.mem_map.1 this
  have := List.mem_range.1 hj
  omega
theorem OrdTo.len {ranks ys : List Int} {i : Nat} (h : OrdTo ranks i ys) : ys.length = i := by have := h.1.length_eq; simpa using this
def rk (ranks : List Int) (x : Int) : Int := ranks.getD x.toNat 0
theorem rk_get {ranks : List Int} {x y : Int} (h : ranks[x.toNat]? = some y) : rk ranks x = y := by simp [rk, List.getD, h]
/-- the place of a node in the order -/
theorem place_loop {ranks out : List Int} {i : Nat} (hO : OrdTo ranks i out) (hi : i < ranks.length) (hn : ranks.length < 1000000000) :
    ∃ p : Nat, iter (σ := Int) (τ := Int) (fun v67 => ck ((((decide ((0 : Int) < v67)) == true) = true → I64ok (v67 - (1 : Int)))) (ixg ((decide ((0 : Int) < v67)) == true) out (v67 - (1 : Int)) fun x74 => (ixg ((decide ((0 : Int) < v67)) == true) ranks x74 fun x77 => (ixg ((decide ((0 : Int) < v67)) == true) ranks (i : Int) fun x80 => (sel ((decide ((0 : Int) < v67)) && (decide (x77 < x80))) (ck (I64ok (v67 - (1 : Int))) (some (.inl (v67 - (1 : Int))))) (some (.inr v67))))))) (out.length : Int) = some (p : Int) ∧
      p ≤ out.length ∧ (∀ x ∈ out.drop p, rk ranks x < rk ranks i) ∧ (∀ x ∈ out.take p, rk ranks i ≤ rk ranks x) := by
  have hol := hO.len
  have hst : ∀ v : Int, (∃ j : Nat, v = j ∧ j ≤ out.length ∧ ∀ x ∈ out.drop j, rk ranks x < rk ranks i) → (∃ s', (fun v67 : Int => ck ((((decide ((0 : Int) < v67)) == true) = true → I64ok (v67 - (1 : Int)))) (ixg ((decide ((0 : Int) < v67)) == true) out (v67 - (1 : Int)) fun x74 => (ixg ((decide ((0 : Int) < v67)) == true) ranks x74 fun x77 => (ixg ((decide ((0 : Int) < v67)) == true) ranks (i : Int) fun x80 => (sel ((decide ((0 : Int) < v67)) && (decide (x77 < x80))) (ck (I64ok (v67 - (1 : Int))) (some (Sum.inl (v67 - (1 : Int))))) (some (Sum.inr v67))))))) v = some (.inl s') ∧ (∃ j : Nat, s' = j ∧ j ≤ out.length ∧ ∀ x ∈ out.drop j, rk ranks x < rk ranks i) ∧ s'.toNat < v.toNat) ∨ ∃ t : Int, (fun v67 : Int => ck ((((decide ((0 : Int) < v67)) == true) = true → I64ok (v67 - (1 : Int)))) (ixg ((decide ((0 : Int) < v67)) == true) out (v67 - (1 : Int)) fun x74 => (ixg ((decide ((0 : Int) < v67)) == true) ranks x74 fun x77 => (ixg ((decide ((0 : Int) < v67)) == true) ranks (i : Int) fun x80 => (sel ((decide ((0 : Int) < v67)) && (decide (x77 < x80))) (ck (I64ok (v67 - (1 : Int))) (some (Sum.inl (v67 - (1 : Int))))) (some (Sum.inr v67))))))) v = some (.inr t) ∧ ∃ p : Nat, t = p ∧ p ≤ out.length ∧ (∀ x ∈ out.drop p, rk ranks x < rk ranks i) ∧ (∀ x ∈ out.take p, rk ranks i ≤ rk ranks x) := by
    rintro v ⟨j, rfl, hj, hd⟩
    cases j with
    | zero =>
      right
      refine ⟨0, ?_, 0, rfl, Nat.zero_le _, hd, by simp⟩
      simp [ck]
    | succ j =>
      have h0 : decide ((0 : Int) < ((j + 1 : Nat) : Int)) = true := decide_eq_true (by omega)
      obtain ⟨y, hy⟩ := get_lt (xs := out) (i := j) (by omega)
      have hyb := hO.mem (List.mem_of_getElem? hy)
      obtain ⟨ry, hry⟩ := get_lt (xs := ranks) (i := y.toNat) (by omega)
      obtain ⟨ri, hri⟩ := get_lt (xs := ranks) (i := i) hi
      have e1 : ((j + 1 : Nat) : Int) - 1 = (j : Int) := by omega
      have r1 : rk ranks y = ry := rk_get hry
      have r2 : rk ranks (i : Int) = ri := rk_get (by simpa using hri)
      have hdy : out.drop j = y :: out.drop (j + 1) := by
        obtain ⟨h1, e⟩ := List.getElem?_eq_some_iff.1 hy
        rw [List.drop_eq_getElem_cons h1, e]
      dsimp only
      rw [h0, e1]
      simp only [BEq.rfl, ixg_true, Bool.true_and]
      rw [ck_pos (fun _ => ⟨by omega, by omega⟩), ix_nat hy, ix_int hyb.1 hry, ix_nat hri]
      by_cases hc : ry < ri
      · left
        refine ⟨(j : Int), by rw [sel_pos (by simpa using hc), ck_pos ⟨by omega, by omega⟩], ⟨j, rfl, by omega, ?_⟩, by simp⟩
        intro x hx
        rw [hdy] at hx
        rcases List.mem_cons.1 hx with rfl | hx
        · rw [r1, r2]; exact hc
        · exact hd x hx
      · right
        refine ⟨((j + 1 : Nat) : Int), by rw [sel_neg (by simpa using hc)], j + 1, rfl, hj, hd, ?_⟩
        intro x hx
        obtain ⟨m, hm, rfl⟩ := List.getElem_of_mem hx
        simp only [List.length_take] at hm
        rw [List.getElem_take]
        by_cases hmj : m = j
        · subst hmj
          have : out[m] = y := (List.getElem?_eq_some_iff.1 hy).2
          rw [this, r1, r2]; omega
        · have hp := List.pairwise_iff_getElem.1 hO.2 m j (by omega) (by omega) (by omega)
          have e3 : out[j]'(by omega) = y := (List.getElem?_eq_some_iff.1 hy).2
          rw [e3] at hp
          simp only [taken, not_or] at hp
          have h4 : ¬ (rk ranks out[m] < rk ranks y) := hp.1
          rw [r1] at h4
          rw [r2]; omega
  obtain ⟨t, ht, p, rfl, h1, h2, h3⟩ := iter_inv _ _ _ hst (s := (out.length : Int)) ⟨out.length, rfl, Nat.le_refl _, by simp⟩
  exact ⟨p, ht, h1, h2, h3⟩
theorem OrdTo.insert {ranks out : List Int} {i p : Nat} (hO : OrdTo ranks i out) (hp : p ≤ out.length) (h1 : ∀ x ∈ out.drop p, rk ranks x < rk ranks i) (h2 : ∀ x ∈ out.take p, rk ranks i ≤ rk ranks x) : OrdTo ranks (i + 1) (out.take p ++ [(i : Int)] ++ out.drop p) := by
  refine ⟨?_, ?_⟩
  · rw [List.range_succ, List.map_append]
    have e : (out.take p ++ [(i : Int)] ++ out.drop p).Perm (out ++ [(i : Int)]) := by
      have : (out.take p ++ [(i : Int)] ++ out.drop p).Perm (out.take p ++ out.drop p ++ [(i : Int)]) := by
        rw [List.append_assoc, List.append_assoc]
        exact List.Perm.append_left _ List.perm_append_comm
      rwa [List.take_append_drop] at this
    exact e.trans (List.Perm.append hO.1 (by simp))
  · have hpw := hO.2
    rw [← List.take_append_drop p out, List.pairwise_append] at hpw
    obtain ⟨q1, q2, q3⟩ := hpw
    rw [List.pairwise_append, List.pairwise_append]
    refine ⟨⟨q1, by simp, ?_⟩, q2, ?_⟩
    · intro x hx y hy
      simp at hy; subst hy
      have hxm := hO.mem (List.mem_of_mem_take hx)
      have := h2 x hx
      simp only [rk] at this
      rintro (h | h) <;> omega
    · intro x hx y hy
      rcases List.mem_append.1 hx with hx | hx
      · exact q3 x hx y hy
      · simp at hx; subst hx
        have := h1 y hy
        simp only [rk] at this
        rintro (h | h) <;> omega
theorem rOrder_is {ranks : List Int} (hn : ranks.length < 1000000000) : ∃ ys, F_rOrder ranks = some ys ∧ IsOrder ranks ys := by
  unfold F_rOrder
  have hst : ∀ s : Int × List Int, (∃ i : Nat, s.1 = i ∧ i ≤ ranks.length ∧ OrdTo ranks i s.2) → (∃ s', (fun x : Int × List Int => match x with | (v45, v46) => sel (decide (v45 < (ranks.length : Int))) (bd (iter (σ := Int) (τ := Int) (fun v67 => ck ((((decide ((0 : Int) < v67)) == true) = true → I64ok (v67 - (1 : Int)))) (ixg ((decide ((0 : Int) < v67)) == true) v46 (v67 - (1 : Int)) fun x74 => (ixg ((decide ((0 : Int) < v67)) == true) ranks x74 fun x77 => (ixg ((decide ((0 : Int) < v67)) == true) ranks v45 fun x80 => (sel ((decide ((0 : Int) < v67)) && (decide (x77 < x80))) (ck (I64ok (v67 - (1 : Int))) (some (.inl (v67 - (1 : Int))))) (some (.inr v67))))))) (v46.length : Int)) (fun v67 => ck (0 ≤ (0 : Int) ∧ (0 : Int) ≤ v67 ∧ v67 ≤ (v46.length : Int)) (ck ((([] : List Int) ++ ((v46.take (Int.toNat v67)).drop (Int.toNat (0 : Int)))).length ≤ 68719476736) (ck (((([] : List Int) ++ ((v46.take (Int.toNat v67)).drop (Int.toNat (0 : Int)))) ++ [v45]).length ≤ 68719476736) (ck (0 ≤ v67 ∧ v67 ≤ (v46.length : Int) ∧ (v46.length : Int) ≤ (v46.length : Int)) (ck ((((([] : List Int) ++ ((v46.take (Int.toNat v67)).drop (Int.toNat (0 : Int)))) ++ [v45]) ++ ((v46.take (Int.toNat (v46.length : Int))).drop (Int.toNat v67))).length ≤ 68719476736) (ck (I64ok (v45 + (1 : Int))) (some (Sum.inl ((v45 + (1 : Int)), (((([] : List Int) ++ ((v46.take (Int.toNat v67)).drop (Int.toNat (0 : Int)))) ++ [v45]) ++ ((v46.take (Int.toNat (v46.length : Int))).drop (Int.toNat v67))))))))))))) (some (Sum.inr (v45, v46)))) s = some (.inl s') ∧ (∃ i : Nat, s'.1 = i ∧ i ≤ ranks.length ∧ OrdTo ranks i s'.2) ∧ ranks.length - s'.1.toNat < ranks.length - s.1.toNat) ∨ ∃ t : Int × List Int, (fun x : Int × List Int => match x with | (v45, v46) => sel (decide (v45 < (ranks.length : Int))) (bd (iter (σ := Int) (τ := Int) (fun v67 => ck ((((decide ((0 : Int) < v67)) == true) = true → I64ok (v67 - (1 : Int)))) (ixg ((decide ((0 : Int) < v67)) == true) v46 (v67 - (1 : Int)) fun x74 => (ixg ((decide ((0 : Int) < v67)) == true) ranks x74 fun x77 => (ixg ((decide ((0 : Int) < v67)) == true) ranks v45 fun x80 => (sel ((decide ((0 : Int) < v67)) && (decide (x77 < x80))) (ck (I64ok (v67 - (1 : Int))) (some (.inl (v67 - (1 : Int))))) (some (.inr v67))))))) (v46.length : Int)) (fun v67 => ck (0 ≤ (0 : Int) ∧ (0 : Int) ≤ v67 ∧ v67 ≤ (v46.length : Int)) (ck ((([] : List Int) ++ ((v46.take (Int.toNat v67)).drop (Int.toNat (0 : Int)))).length ≤ 68719476736) (ck (((([] : List Int) ++ ((v46.take (Int.toNat v67)).drop (Int.toNat (0 : Int)))) ++ [v45]).length ≤ 68719476736) (ck (0 ≤ v67 ∧ v67 ≤ (v46.length : Int) ∧ (v46.length : Int) ≤ (v46.length : Int)) (ck ((((([] : List Int) ++ ((v46.take (Int.toNat v67)).drop (Int.toNat (0 : Int)))) ++ [v45]) ++ ((v46.take (Int.toNat (v46.length : Int))).drop (Int.toNat v67))).length ≤ 68719476736) (ck (I64ok (v45 + (1 : Int))) (some (Sum.inl ((v45 + (1 : Int)), (((([] : List Int) ++ ((v46.take (Int.toNat v67)).drop (Int.toNat (0 : Int)))) ++ [v45]) ++ ((v46.take (Int.toNat (v46.length : Int))).drop (Int.toNat v67))))))))))))) (some (Sum.inr (v45, v46)))) s = some (.inr t) ∧ IsOrder ranks t.2 := by
    rintro ⟨v, out⟩ ⟨i, rfl, hi, hO⟩
    replace hO : OrdTo ranks i out := hO
    have hol := hO.len
    dsimp only
    by_cases hlt : i < ranks.length
    · left
      obtain ⟨p, hp, hpl, h1, h2⟩ := place_loop hO hlt hn
      have e1 : (([] : List Int) ++ ((out.take (Int.toNat (p : Int))).drop (Int.toNat (0 : Int)))) = out.take p := by simp
      have e2 : ((out.take (Int.toNat (out.length : Int))).drop (Int.toNat (p : Int))) = out.drop p := by simp
      refine ⟨((i + 1 : Nat), out.take p ++ [(i : Int)] ++ out.drop p), ?_, ⟨i + 1, rfl, hlt, hO.insert hpl h1 h2⟩, by simp only [Int.toNat_natCast]; omega⟩
      rw [sel_pos (nat_lt hlt), hp, bd_some', ck_pos ⟨by omega, by omega, by omega⟩]
      rw [e1, e2]
      have hl : (out.take p ++ [(i : Int)] ++ out.drop p).length ≤ 68719476736 := by simp; omega
      rw [ck_pos (by simp; omega), ck_pos (by simp; omega), ck_pos ⟨by omega, by omega, by omega⟩, ck_pos hl, ck_pos (i64_nat (by omega)), cast_succ]
    · right
      have : i = ranks.length := by omega
      subst this
      exact ⟨(_, out), by rw [sel_neg nat_nlt], hO⟩
  obtain ⟨t, ht, hq⟩ := iter_inv _ (fun s : Int × List Int => ranks.length - s.1.toNat) _ hst (s := ((0 : Int), ([] : List Int))) ⟨0, rfl, Nat.zero_le _, by simp [OrdTo]⟩
  rw [bd_of ht]
  exact ⟨t.2, rfl, hq⟩
theorem rOrder_eq {ranks : List Int} (hn : ranks.length < 1000000000) : F_rOrder ranks = some (orderOf ranks) ∧ IsOrder ranks (orderOf ranks) := by
  obtain ⟨ys, h1, h2⟩ := rOrder_is hn
  rw [orderOf_eq h2]; exact ⟨h1, h2⟩
/-! sums -/
theorem addAt_get {n : Int} : ∀ {ps s : List Int}, ps.Pairwise (fun x y => y < x) → (∀ p ∈ ps, 0 ≤ p ∧ p < (s.length : Int)) → ∀ {y : Nat}, y < s.length → (addAt s ps n).getD y 0 = s.getD y 0 + (if (y : Int) ∈ ps then n else 0)
  | [], s, _, _, y, hy => by simp [addAt]
  | p :: ps, s, hpw, hb, y, hy => by
    obtain ⟨h1, h2⟩ := List.pairwise_cons.1 hpw
    have hpb := hb p (List.mem_cons_self ..)
    have ih := addAt_get (n := n) (s := s.set p.toNat (s.getD p.toNat 0 + n)) h2 (fun q hq => by simpa using hb q (List.mem_cons_of_mem _ hq)) (y := y) (by simpa using hy)
    have e : addAt s (p :: ps) n = addAt (s.set p.toNat (s.getD p.toNat 0 + n)) ps n := rfl
    rw [e, ih]
    by_cases hyp : (y : Int) = p
    · subst hyp
      have hn : ((y : Int)) ∉ ps := fun h => by have := h1 _ h; omega
      simp [hn, List.getD, hy]
    · have hne : p.toNat ≠ y := by omega
      simp [List.getD, List.getElem?_set, hne, hyp]
theorem sums_get {c : Cable} (hF : Fit c) {g : List Int} (hl : g.length = c.nodes.length) : ∀ {i : Nat}, i ≤ c.nodes.length → ∀ {y : Nat}, y < g.length → (sumsUpto c g i).getD y 0 = ((subTo c y i).map fun i => g.getD i.toNat 0).sum
  | 0, _, y, hy => by simp [sumsUpto, subTo, List.getD, hy]
  | i + 1, hi, y, hy => by
    have ih := sums_get hF hl (i := i) (by omega) hy
    rw [sumsUpto, addAt_get (path_desc hF _) (fun p hp => by have := path_mem hF hp; rw [sumsUpto_length]; omega) (by rw [sumsUpto_length]; exact hy), ih, subTo_succ]
    by_cases h : (y : Int) ∈ path c i <;> simp [h]
theorem sums_carr {c : Cable} (hF : Fit c) {g : List Int} (hl : g.length = c.nodes.length) {y : Nat} (hy : y < c.nodes.length) : (sumsUpto c g c.nodes.length).getD y 0 = carr c g y := sums_get hF hl (Nat.le_refl _) (by omega)
theorem sum_set {g : List Int} {k v : Int} (hk : 0 ≤ k ∧ k < (g.length : Int)) : ∀ {l : List Int}, l.Nodup → (∀ x ∈ l, 0 ≤ x) → (l.map fun i => (g.set k.toNat v).getD i.toNat 0).sum = (l.map fun i => g.getD i.toNat 0).sum + (if k ∈ l then v - g.getD k.toNat 0 else 0)
  | [], _, _ => by simp
  | x :: l, hn, hb => by
    obtain ⟨h1, h2⟩ := List.nodup_cons.1 hn
    have ih := sum_set (g := g) (v := v) hk h2 (fun y hy => hb y (List.mem_cons_of_mem _ hy))
    have hx := hb x (List.mem_cons_self ..)
    simp only [List.map_cons, List.sum_cons, ih]
    by_cases e : k = x
    · subst e
      have hlt : k.toNat < g.length := by omega
      simp [h1, List.getD, hlt]; omega
    · have hne : k.toNat ≠ x.toNat := by omega
      have e2 : (g.set k.toNat v).getD x.toNat 0 = g.getD x.toNat 0 := by simp [List.getD, List.getElem?_set, hne]
      rw [e2]
      simp [e]; omega
theorem subtree_nodup (c : Cable) (k : Int) : (subtree c k).Nodup := by
  unfold subtree
  refine List.Nodup.sublist List.filter_sublist ?_
  rw [List.Nodup, List.pairwise_map]
  exact List.nodup_range.imp (fun h => by omega)
theorem carr_set {c : Cable} {g : List Int} {k v : Int} (hl : g.length = c.nodes.length) (hk : 0 ≤ k ∧ k < c.nodes.length) (y : Int) : carr c (g.set k.toNat v) y = carr c g y + (if y ∈ path c k then v - g.getD k.toNat 0 else 0) := by
  unfold carr
  rw [sum_set (by omega) (subtree_nodup c y) (fun x hx => (subtree_mem.1 hx).1.1)]
  congr 1
  by_cases h : y ∈ path c k
  · rw [if_pos (subtree_mem.2 ⟨hk, h⟩), if_pos h]
  · rw [if_neg (fun hx => h (subtree_mem.1 hx).2), if_neg h]
/-! shares -/
theorem minAt_eq {left : List Int} : ∀ {ps : List Int} {n : Int}, minAt left ps n = n ∨ ∃ y ∈ ps, minAt left ps n = left.getD y.toNat 0
  | [], n => .inl rfl
  | p :: ps, n => by
    have e : minAt left (p :: ps) n = minAt left ps (min n (left.getD p.toNat 0)) := rfl
    rcases minAt_eq (left := left) (ps := ps) (n := min n (left.getD p.toNat 0)) with h | ⟨y, hy, h⟩
    · rw [e, h]
      rcases Int.le_total n (left.getD p.toNat 0) with h1 | h1
      · left; omega
      · right; exact ⟨p, List.mem_cons_self .., by omega⟩
    · right; exact ⟨y, List.mem_cons_of_mem _ hy, by rw [e, h]⟩
structure Shared (c : Cable) (q ys : List Int) (gr left : List Int) : Prop where
  gl : gr.length = c.nodes.length
  ll : left.length = c.nodes.length
  lb : ∀ z ∈ left, 0 ≤ z ∧ z ≤ 3932160
  gb : ∀ z ∈ gr, 0 ≤ z ∧ z ≤ 65536
  lc : ∀ y : Nat, y < c.nodes.length → left.getD y 0 = c.lim y - carr c gr y
  g0 : ∀ k : Int, 0 ≤ k → k ∉ ys → gr.getD k.toNat 0 = 0
  le : ∀ k ∈ ys, gr.getD k.toNat 0 ≤ q.getD k.toNat 0 ∧ (gr.getD k.toNat 0 < q.getD k.toNat 0 → ∃ y ∈ path c k, left.getD y.toNat 0 = 0)
theorem mem_getD {l : List Int} {p : Int → Prop} {i : Nat} (h : ∀ x ∈ l, p x) (hi : i < l.length) : p (l.getD i 0) := by
  have : l.getD i 0 = l[i] := by simp [List.getD, hi]
  rw [this]; exact h _ (List.getElem_mem hi)
theorem sum_zero {n : Nat} : ∀ (l : List Int), (l.map fun i => (List.replicate n (0 : Int)).getD i.toNat 0).sum = 0
  | [] => rfl
  | x :: l => by
    have h1 : (List.replicate n (0 : Int)).getD x.toNat 0 = 0 := by
      simp only [List.getD, List.getElem?_replicate]
      split <;> rfl
    rw [List.map_cons, List.sum_cons, sum_zero l, h1]; rfl
theorem lims_get {c : Cable} {y : Nat} (hy : y < c.nodes.length) : (lims c).getD y 0 = c.lim y := by
  simp [lims, limTo, List.getD, hy]
theorem Shared.nil {c : Cable} (hF : Fit c) (q : List Int) : Shared c q [] (shareTo c q []).1 (shareTo c q []).2 where
  gl := by simp [shareTo]
  ll := by simp [shareTo, lims, limTo]
  lb := lims_bound hF
  gb := by intro z hz; have := (List.mem_replicate.1 hz).2; subst this; simp
  lc := by intro y hy; simp only [shareTo, List.foldl_nil, lims_get hy, carr, sum_zero]; omega
  g0 := by
    intro k _ _
    simp only [shareTo, List.foldl_nil, List.getD, List.getElem?_replicate]
    split <;> rfl
  le := by intro k hk; simp at hk
theorem Shared.snoc {c : Cable} (hF : Fit c) {q ys : List Int} (hq : q.length = c.nodes.length) (hqb : ∀ x ∈ q, 0 ≤ x ∧ x ≤ 65536) {k : Int} (hk : 0 ≤ k ∧ k < c.nodes.length) (hnk : k ∉ ys) (hyb : ∀ y ∈ ys, 0 ≤ y) (h : Shared c q ys (shareTo c q ys).1 (shareTo c q ys).2) :
    Shared c q (ys ++ [k]) (shareTo c q (ys ++ [k])).1 (shareTo c q (ys ++ [k])).2 := by
  have e : shareTo c q (ys ++ [k]) = shareStep c q (shareTo c q ys) k := by simp [shareTo, List.foldl_append]
  rw [e]
  generalize hs : shareTo c q ys = s at h
  obtain ⟨gr, left⟩ := s
  simp only at h
  have hkl : k.toNat < c.nodes.length := by omega
  have hqk := mem_getD hqb (i := k.toNat) (by omega)
  have hle := minAt_le (left := left) (ps := path c k) (n := q.getD k.toNat 0)
  have hnn : 0 ≤ minAt left (path c k) (q.getD k.toNat 0) := minAt_nonneg (fun z hz => (h.lb z hz).1) hqk.1
  have hg0 := h.g0 k hk.1 hnk
  have hpb : ∀ p ∈ path c k, 0 ≤ p ∧ p < (left.length : Int) := fun p hp => by have := path_mem hF hp; rw [h.ll]; omega
  simp only [shareStep]
  generalize hn : minAt left (path c k) (q.getD k.toNat 0) = n at *
  have hleft : ∀ y : Nat, y < c.nodes.length → (addAt left (path c k) (-n)).getD y 0 = left.getD y 0 + (if (y : Int) ∈ path c k then -n else 0) := fun y hy => addAt_get (path_desc hF k) hpb (by rw [h.ll]; exact hy)
  refine ⟨by simp [h.gl], by rw [addAt_length]; exact h.ll, ?_, ?_, ?_, ?_, ?_⟩
  · have := left_next hF h.lb hnn (fun y hy => hle.2 y hy) (path c k).length
    rwa [List.take_length] at this
  · intro z hz
    rcases List.mem_or_eq_of_mem_set hz with hz | rfl
    · exact h.gb z hz
    · exact ⟨hnn, by omega⟩
  · intro y hy
    rw [hleft y hy, h.lc y hy, carr_set h.gl hk, hg0]
    by_cases hm : (y : Int) ∈ path c k <;> simp [hm] <;> omega
  · intro j hj hjn
    have hjk : j ≠ k := fun e => hjn (by simp [e])
    have hne : k.toNat ≠ j.toNat := by omega
    have := h.g0 j hj (fun hm => hjn (by simp [hm]))
    simp only [List.getD, List.getElem?_set, hne, if_false] at this ⊢
    exact this
  · intro j hj
    rcases List.mem_append.1 hj with hj | hj
    · have hj0 := hyb j hj
      have hjk : j ≠ k := fun e => hnk (e ▸ hj)
      have hne : k.toNat ≠ j.toNat := by omega
      have e2 : (gr.set k.toNat n).getD j.toNat 0 = gr.getD j.toNat 0 := by simp [List.getD, List.getElem?_set, hne]
      rw [e2]
      obtain ⟨k1, k2⟩ := h.le j hj
      refine ⟨k1, fun hlt => ?_⟩
      obtain ⟨y, hy, hz⟩ := k2 hlt
      refine ⟨y, hy, ?_⟩
      by_cases hjn : j < c.nodes.length
      · have hyb2 := path_mem hF hy
        have hyt : ((y.toNat : Nat) : Int) = y := by omega
        rw [hleft y.toNat (by omega), hz, hyt]
        by_cases hm : y ∈ path c k
        · have := hle.2 y hm
          rw [hz] at this
          simp [hm]; omega
        · simp [hm]
      · have hyb2 := path_mem hF hy
        by_cases hyn : y.toNat < c.nodes.length
        · have hyt : ((y.toNat : Nat) : Int) = y := by omega
          rw [hleft y.toNat hyn, hz, hyt]
          by_cases hm : y ∈ path c k
          · have := hle.2 y hm
            rw [hz] at this
            simp [hm]; omega
          · simp [hm]
        · have : (addAt left (path c k) (-n)).length ≤ y.toNat := by rw [addAt_length, h.ll]; omega
          simp [List.getD, this]
    · simp at hj; subst hj
      have hlt : j.toNat < gr.length := by rw [h.gl]; exact hkl
      have e2 : (gr.set j.toNat n).getD j.toNat 0 = n := by simp [List.getD, hlt]
      rw [e2]
      refine ⟨hle.1, fun hl => ?_⟩
      rcases minAt_eq (left := left) (ps := path c j) (n := q.getD j.toNat 0) with h1 | ⟨y, hy, h1⟩
      · rw [hn] at h1; omega
      · rw [hn] at h1
        refine ⟨y, hy, ?_⟩
        have hyb2 := path_mem hF hy
        have hyt : ((y.toNat : Nat) : Int) = y := by omega
        rw [hleft y.toNat (by omega), hyt]
        simp only [hy, if_true]; omega
theorem Shared.all {c : Cable} (hF : Fit c) {q : List Int} (hq : q.length = c.nodes.length) (hqb : ∀ x ∈ q, 0 ≤ x ∧ x ≤ 65536) {ys : List Int} (hn : ys.Nodup) (hb : ∀ y ∈ ys, 0 ≤ y ∧ y < c.nodes.length) : ∀ i, i ≤ ys.length → Shared c q (ys.take i) (shareTo c q (ys.take i)).1 (shareTo c q (ys.take i)).2
  | 0, _ => by rw [List.take_zero]; exact Shared.nil hF q
  | i + 1, hi => by
    have ih := Shared.all hF hq hqb hn hb i (by omega)
    have hlt : i < ys.length := hi
    rw [List.take_succ_eq_append_getElem hlt]
    refine ih.snoc hF hq hqb (hb _ (List.getElem_mem hlt)) ?_ (fun y hy => (hb y (List.mem_of_mem_take hy)).1)
    intro hm
    obtain ⟨j, hj, he⟩ := List.getElem_of_mem hm
    simp only [List.length_take] at hj
    rw [List.getElem_take] at he
    exact (List.pairwise_iff_getElem.1 hn j i (by omega) hlt (by omega)) he
end Go.Proofs
namespace Go.Proofs
open Go Go.J Go.RowKit Go.Cab
set_option linter.unusedSimpArgs false
set_option linter.unusedVariables false
theorem amps_loop {R : Type} (q : List Int) (hn : q.length < 1000000000) (r : R) :
    iter (σ := Int) (τ := (Int ⊕ R)) (fun v15 => sel (decide (v15 < (q.length : Int))) (ix q v15 fun x22 => (ixg ((decide (x22 < (0 : Int))) == false) q v15 fun x25 => (sel ((decide (x22 < (0 : Int))) || (decide ((65536 : Int) < x25))) (some (.inr (.inr r))) (ck (I64ok (v15 + (1 : Int))) (some (.inl (v15 + (1 : Int)))))))) (some (.inr (.inl v15)))) (0 : Int) = some (if q.any badAmp then .inr r else .inl (q.length : Int)) := by
  have step : ∀ (i : Nat) (x : Int), q[i]? = some x → ∀ (K : Option (Int ⊕ (Int ⊕ R))), ixg ((decide (x < (0 : Int))) == false) q (i : Int) (fun x25 => (sel ((decide (x < (0 : Int))) || (decide ((65536 : Int) < x25))) (some (.inr (.inr r))) K)) = if badAmp x then some (.inr (.inr r)) else K := by
    intro i x hx K
    by_cases h0 : x < 0
    · simp [h0, badAmp]
    · simp only [h0, decide_false, BEq.rfl, ixg_true, Bool.false_or, badAmp]
      rw [ix_nat hx]
      by_cases h1 : 65536 < x <;> simp [h1]
  cases hb : q.any badAmp with
  | true =>
    obtain ⟨x0, hx0, hbx⟩ := List.any_eq_true.1 hb
    obtain ⟨i0, hi0, he⟩ := List.getElem_of_mem hx0
    obtain ⟨i, ⟨x, hx, hbx⟩, hmin⟩ := least (p := fun i => ∃ x, q[i]? = some x ∧ badAmp x = true) (n := i0) ⟨x0, by rw [List.getElem?_eq_getElem hi0, he], hbx⟩
    have hil := (List.getElem?_eq_some_iff.1 hx).1
    have := iter_run (f := fun v15 : Int => sel (decide (v15 < (q.length : Int))) (ix q v15 fun x22 => (ixg ((decide (x22 < (0 : Int))) == false) q v15 fun x25 => (sel ((decide (x22 < (0 : Int))) || (decide ((65536 : Int) < x25))) (some (Sum.inr (Sum.inr r))) (ck (I64ok (v15 + (1 : Int))) (some (Sum.inl (v15 + (1 : Int)))))))) (some (Sum.inr (Sum.inl v15)))) i (fun i => (i : Int)) (t := .inr r) (fun j hj => ?_) ?_
    · simpa using this
    · obtain ⟨y, hy⟩ := get_lt (xs := q) (i := j) (by omega)
      have hby : badAmp y = false := by
        cases h : badAmp y with
        | false => rfl
        | true => exact absurd (hmin j ⟨y, hy, h⟩) (by omega)
      rw [sel_pos (nat_lt (by omega)), ix_nat hy, step j y hy, if_neg (by rw [hby]; simp), ck_pos (i64_nat (by omega)), cast_succ]
    · rw [sel_pos (nat_lt hil), ix_nat hx, step i x hx, if_pos hbx]
  | false =>
    have := iter_run (f := fun v15 : Int => sel (decide (v15 < (q.length : Int))) (ix q v15 fun x22 => (ixg ((decide (x22 < (0 : Int))) == false) q v15 fun x25 => (sel ((decide (x22 < (0 : Int))) || (decide ((65536 : Int) < x25))) (some (Sum.inr (Sum.inr r))) (ck (I64ok (v15 + (1 : Int))) (some (Sum.inl (v15 + (1 : Int)))))))) (some (Sum.inr (Sum.inl v15)))) q.length (fun i => (i : Int)) (t := .inl (q.length : Int)) (fun j hj => ?_) ?_
    · simpa using this
    · obtain ⟨y, hy⟩ := get_lt hj
      have hby : badAmp y = false := by
        have := List.any_eq_false.1 hb y (List.mem_of_getElem? hy)
        simpa using this
      rw [sel_pos (nat_lt hj), ix_nat hy, step j y hy, if_neg (by rw [hby]; simp), ck_pos (i64_nat (by omega)), cast_succ]
    · exact sel_neg nat_nlt
theorem amps_in {q : List Int} (h : q.any badAmp = false) : ∀ x ∈ q, 0 ≤ x ∧ x ≤ 65536 := by
  intro x hx
  have := List.any_eq_false.1 h x hx
  simp [badAmp] at this
  omega
theorem lim_of {c : Cable} {k : Nat} {n : Nd} (h : c.nodes[k]? = some n) : c.lim k = n.limit := by simp [Cable.lim, h]
theorem lim_bound {c : Cable} (hF : Fit c) (k : Nat) : 0 ≤ c.lim k ∧ c.lim k ≤ 3932160 := by
  unfold Cable.lim
  cases h : c.nodes[k]? with
  | none => simp
  | some n => have := Nd.good_props (hF.good k n h); simp only; omega
theorem zip_get {c : Cable} (hF : Fit c) {g : List Int} (hl : g.length = c.nodes.length) {k : Nat} {n : Nd} (hn : c.nodes[k]? = some n) : ((sumsUpto c g c.nodes.length).zip c.nodes)[k]? = some (carr c g k, n) := by
  have hk := (List.getElem?_eq_some_iff.1 hn).1
  rw [List.getElem?_zip_eq_some]
  refine ⟨?_, hn⟩
  have := sums_carr hF hl hk
  have hlt : k < (sumsUpto c g c.nodes.length).length := by rw [sumsUpto_length]; omega
  simp only [List.getD, List.getElem?_eq_getElem hlt, Option.getD_some] at this
  rw [List.getElem?_eq_getElem hlt, this]
theorem rCheckShare_eq (c : Cable) (g : List Int) (hn : g.length < 1000000000) : F_rCheckShare c g = some (checkShareV c g) := by
  unfold F_rCheckShare
  rw [rCheck_eq, bd_some']
  by_cases hc : c.check = 0
  · have hF := Fit.of hc
    have h60 := hF.le
    rw [sel_neg (by simp [hc])]
    by_cases hl : g.length = c.nodes.length
    · rw [sel_neg (by simp [hl]), bd_of (amps_loop g hn _)]
      cases hb : g.any badAmp with
      | true => simp [checkShareV, hc, ampsV, hl, hb]
      | false =>
        have hgb := amps_in hb
        have ha : ampsV c.nodes.length g = 0 := by simp [ampsV, hl, hb]
        have hcar : ∀ k : Int, F_rcarried c g k = some (carr c g k) := fun k => rcarried_eq hF hl (fun x hx => by have := hgb x hx; omega) k
        simp only [Bool.false_eq_true, if_false, thn_inl]
        by_cases hov : ∃ (k : Nat) (n : Nd), c.nodes[k]? = some n ∧ n.limit < carr c g k
        · obtain ⟨k, ⟨n, hk, hlt⟩, hmin⟩ := least (p := fun k => ∃ n : Nd, c.nodes[k]? = some n ∧ n.limit < carr c g k) hov.choose_spec
          have hkl := (List.getElem?_eq_some_iff.1 hk).1
          rw [share_over ha hc (zip_get hF hl hk) ?_ (by simpa using hlt)]
          · refine loop_run k (fun i => (i : Int)) (.inr ((k : Int), 18)) rfl (fun j hj => ?_) ?_ rfl
            · obtain ⟨m, hm⟩ := get_lt (xs := c.nodes) (i := j) (by omega)
              have hnl : ¬ m.limit < carr c g j := fun h => absurd (hmin j ⟨m, hm, h⟩) (by omega)
              rw [sel_pos (nat_lt (by omega)), hcar, bd_some', ix_nat hm, sel_neg (by simpa using hnl), ck_pos (i64_nat (by omega)), cast_succ]
            · rw [sel_pos (nat_lt hkl), hcar, bd_some', ix_nat hk, sel_pos (by simpa using hlt)]
          · intro s hs
            obtain ⟨j, hj, he⟩ := List.getElem_of_mem hs
            simp only [List.length_take] at hj
            rw [List.getElem_take] at he
            obtain ⟨m, hm⟩ := get_lt (xs := c.nodes) (i := j) (by omega)
            have hz := zip_get hF hl hm
            rw [List.getElem?_eq_getElem (by omega), he] at hz
            cases hz
            have hnl : ¬ m.limit < carr c g j := fun h => absurd (hmin j ⟨m, hm, h⟩) (by omega)
            simpa using hnl
        · rw [share_none ha hc ?_]
          · refine loop_run c.nodes.length (fun i => (i : Int)) (.inl (c.nodes.length : Int)) rfl (fun j hj => ?_) (sel_neg nat_nlt) rfl
            obtain ⟨m, hm⟩ := get_lt hj
            have hnl : ¬ m.limit < carr c g j := fun h => hov ⟨j, m, hm, h⟩
            rw [sel_pos (nat_lt (by omega)), hcar, bd_some', ix_nat hm, sel_neg (by simpa using hnl), ck_pos (i64_nat (by omega)), cast_succ]
          · intro s hs
            obtain ⟨j, hj, he⟩ := List.getElem_of_mem hs
            have hj2 := hj
            rw [List.length_zip, sumsUpto_length] at hj2
            obtain ⟨m, hm⟩ := get_lt (xs := c.nodes) (i := j) (by omega)
            have hz := zip_get hF hl hm
            rw [List.getElem?_eq_getElem hj, he] at hz
            cases hz
            have hnl : ¬ m.limit < carr c g j := fun h => hov ⟨j, m, hm, h⟩
            simpa using hnl
    · rw [sel_pos (by simp; omega)]
      simp [checkShareV, hc, ampsV, hl]
  · rw [sel_pos (by simpa using hc)]
    simp [checkShareV, hc]
theorem order_nodup {ranks ys : List Int} (h : IsOrder ranks ys) : ys.Nodup := by
  refine (h.1.nodup_iff).2 ?_
  rw [List.Nodup, List.pairwise_map]
  exact List.nodup_range.imp (fun h => by omega)
theorem rShare_eq (c : Cable) (q ranks : List Int) (hqn : q.length < 1000000000) (hrn : ranks.length < 1000000000) : F_rShare c q ranks = some (shareV c q ranks) := by
  unfold F_rShare
  rw [rCheck_eq, bd_some']
  by_cases hc : c.check = 0
  · have hF := Fit.of hc
    have h60 := hF.le
    rw [sel_neg (by simp [hc])]
    by_cases hr : ranks.length = c.nodes.length
    · by_cases hq : q.length = c.nodes.length
      · rw [sel_neg (by simp [hr, hq]), bd_of (amps_loop q hqn _)]
        cases hb : q.any badAmp with
        | true => simp [shareV, hc, hr, ampsV, hq, hb]
        | false =>
          have hqb := amps_in hb
          have ha : ampsV c.nodes.length q = 0 := by simp [ampsV, hq, hb]
          obtain ⟨ho1, ho2⟩ := rOrder_eq hrn
          have hol := ho2.length
          have hom := ho2.mem
          have hall := Shared.all hF hq hqb (order_nodup ho2) (fun y hy => by have := hom y hy; omega)
          simp only [Bool.false_eq_true, if_false, thn_inl]
          rw [ck_pos (by omega), ho1, bd_some']
          rw [show shareV c q ranks = ((shareTo c q (orderOf ranks)).1, 0) by simp [shareV, hc, hr, ha]]
          refine loop_run (orderOf ranks).length (fun i => ((i : Int), (shareTo c q ((orderOf ranks).take i)).1)) (((orderOf ranks).length : Int), (shareTo c q (orderOf ranks)).1) (by simp [shareTo]) (fun i hi => ?_) ?_ rfl
          · have hS := hall i (by omega)
            obtain ⟨k, hk⟩ := get_lt hi
            have hkb := hom k (List.mem_of_getElem? hk)
            obtain ⟨rq, hrq⟩ := get_lt (xs := q) (i := k.toNat) (by omega)
            rw [shareTo_next hk]
            generalize hs : shareTo c q ((orderOf ranks).take i) = s at hS
            obtain ⟨gr, left⟩ := s
            simp only at hS
            obtain ⟨gk, hgk⟩ := get_lt (xs := gr) (i := k.toNat) (by rw [hS.gl]; omega)
            dsimp only
            have hpl := path_length hF (k := k) (by omega)
            have hin : iter (σ := (Int × Int)) (τ := (Int × Int)) (fun (v118, v119) => sel (decide (v118 < ((path c k).length : Int))) (ix (path c k) v118 fun x126 => (ix c.nodes x126 fun x129 => (ix (path c k) v118 fun x132 => (bd (F_rcarried (c) (gr) (x132)) fun r135 => (ck (I64ok (x129.limit - r135)) (ck (I64ok (v118 + (1 : Int))) (some (.inl ((v118 + (1 : Int)), (min v119 (x129.limit - r135))))))))))) (some (.inr (v118, v119)))) ((0 : Int), rq) = some (((path c k).length : Int), minAt left (path c k) rq) := by
              have := iter_run (f := fun x : Int × Int => match x with | (v118, v119) => sel (decide (v118 < ((path c k).length : Int))) (ix (path c k) v118 fun x126 => (ix c.nodes x126 fun x129 => (ix (path c k) v118 fun x132 => (bd (F_rcarried (c) (gr) (x132)) fun r135 => (ck (I64ok (x129.limit - r135)) (ck (I64ok (v118 + (1 : Int))) (some (Sum.inl ((v118 + (1 : Int)), (min v119 (x129.limit - r135))))))))))) (some (Sum.inr (v118, v119)))) (path c k).length (fun j => ((j : Int), minAt left ((path c k).take j) rq)) (t := (((path c k).length : Int), minAt left (path c k) rq)) (fun j hj => ?_) ?_
              · simpa [minAt] using this
              · obtain ⟨y, hy⟩ := get_lt hj
                obtain ⟨hy0, hyk⟩ := path_mem hF (List.mem_of_getElem? hy)
                obtain ⟨m, hm⟩ := get_lt (xs := c.nodes) (i := y.toNat) (by omega)
                obtain ⟨z, hz⟩ := get_lt (xs := left) (i := y.toNat) (by rw [hS.ll]; omega)
                have hzl := hS.lc y.toNat (by omega)
                rw [lim_of hm] at hzl
                have hyt : ((y.toNat : Nat) : Int) = y := by omega
                rw [hyt] at hzl
                simp only [List.getD, hz, Option.getD_some] at hzl
                have hzb := hS.lb z (List.mem_of_getElem? hz)
                dsimp only
                rw [sel_pos (nat_lt hj), ix_nat hy, ix_int hy0 hm, ix_nat hy, rcarried_eq hF hS.gl (fun x hx => by have := hS.gb x hx; omega), bd_some', ← hzl, ck_pos ⟨by omega, by omega⟩, ck_pos (i64_nat (by omega)), minAt_take hy hz, cast_succ]
              · dsimp only
                rw [sel_neg nat_nlt, List.take_of_length_le (Nat.le_refl _)]
            rw [sel_pos (nat_lt hi), ix_nat hk, ix_int hkb.1 hrq, rpath_eq hF (by omega), bd_some', bd_of hin]
            dsimp only
            rw [ix_int hkb.1 hgk, ck_pos (i64_nat (by omega)), cast_succ]
            simp [shareStep, List.getD, hrq]
          · dsimp only
            rw [sel_neg nat_nlt, List.take_of_length_le (Nat.le_refl _)]
      · rw [sel_pos (by simp; omega)]
        simp [shareV, hc, hr, ampsV, hq]
    · rw [sel_pos (by simp; omega)]
      simp [shareV, hc, hr]
  · rw [sel_pos (by simpa using hc)]
    simp [shareV, hc]
def exC : Cable := ⟨⟨10000, 10000⟩, [⟨-1, ⟨0, 0⟩, 1000, ⟨0, 0⟩, 0, -1⟩, ⟨0, ⟨100, 200⟩, 500, ⟨100, 100⟩, 9000, 30⟩, ⟨1, ⟨1000, 1000⟩, 300, ⟨200, 300⟩, 9700, 10⟩, ⟨1, ⟨500, 500⟩, 300, ⟨0, 50⟩, 9900, -1⟩]⟩
theorem fine_eq : F_fine = some true := by
  have h1 : F_Example = some exC := rfl
  have h2 : F_Voltages exC = some (voltages exC, 0) := ck_pos (by decide)
  have h3 : F_Lost exC [2, 3] [] = some (lostV exC [2, 3] [], 0) := ck_pos (by decide)
  have h4 : lostV exC [2, 3] [] = [1, 2, 3] := by
    have e1 : (lostTo exC [] [2, 3]).map (·.1) = [2, 1, 3] := by decide +kernel
    unfold lostV
    rw [e1]
    exact ((List.mergeSort_perm _ _).trans (by decide : [(2 : Int), 1, 3].Perm [1, 2, 3])).eq_of_pairwise (fun a b _ _ h1 h2 => Int.le_antisymm h1 h2) ((List.pairwise_mergeSort (le := fun x y : Int => decide (x ≤ y)) (fun a b c h1 h2 => by simp at *; omega) (fun a b => by simp; omega) _).imp (fun h => of_decide_eq_true h)) (by decide)
  have h5 : (voltages exC).length = 4 := by decide +kernel
  have h6 : (voltages exC)[2]? = some ⟨9610, 9770⟩ := by decide +kernel
  unfold F_fine
  rw [h1, bd_some', h2, bd_some', bd_some', h3, bd_some', h4]
  simp only [h5]
  rw [ck_pos (by decide)]
  have e1 : ((decide (((0 : Int) + 0) = 0) && decide (((4 : Nat) : Int) = 4)) == true) = true := by decide
  rw [e1, ixg_true, ix_int (by decide) h6, ints_eq (by decide)]
  rfl
theorem shares_true (c : Cable) (q ranks g : List Int) : F_CableShares c q ranks g = some true := by
  unfold F_CableShares
  rw [show F_long c = some _ from rfl, bd_some', fine_eq]
  cases hcond : ((((decide ((20 : Int) < (c.nodes.length : Int))) && (decide ((c.nodes.length : Int) ≤ (60 : Int)))) || (decide ((70 : Int) < (c.nodes.length : Int)))) || (decide ((100 : Int) < (q.length : Int))) || (decide ((100 : Int) < (ranks.length : Int))) || (decide ((100 : Int) < (g.length : Int)))) with
  | true => rfl
  | false =>
    simp only [Bool.or_eq_false_iff, decide_eq_false_iff_not] at hcond
    rw [sel_false, F_Share, bd_some', rShare_eq c q ranks (by omega) (by omega), bd_some', F_CheckShare, bd_some', rCheckShare_eq c g (by omega), bd_some']
    have hl : (shareV c q ranks).1.length < 1000000000 := by
      by_cases hc : c.check = 0
      · have := (Fit.of hc).le
        unfold shareV
        split
        · simp
        · split
          · simp
          · split
            · simp
            · rw [shareTo_len]; omega
      · simp [shareV, hc]
    rw [longs_eq hl]
    simp
end Go.Proofs
