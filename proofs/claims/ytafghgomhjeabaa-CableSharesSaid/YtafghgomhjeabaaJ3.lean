/- Words for walks that are printed: plain functions with checks, and rows whose addresses stay closed. Words for walks that are printed: append, make and literals as owned rows; rows handed to a call. Words for walks that are printed: loops and their ends. Words for walks that are printed: results that lie in cells. Words for walks: maps, and functions that are ranged over whose order is drawn. Words for walks: the operations on maps. Words for rows: what comes in is opened to plain data; what a law leaves is handed back. -/
import Derived.Test.YtafghgomhjeabaaJ2
import Derived.Maps.RangeRun
import Derived.Carry
import Derived.Deep.Slices
import Derived.ChangeSame
import Derived.OpenShut
set_option linter.unusedVariables false
set_option linter.unusedSimpArgs false
namespace Go.J
open Go Go.RowKit
section plain
variable {α β σ τ X : Type}
/-- a case -/
def sel (b : Bool) (x y : Option α) : Option α := match b with | true => x | false => y
theorem sel_t {b : Bool} {x y : Option α} {r : Option α} (h : b = true) (H : sel b x y = r) : x = r := by subst h; exact H
theorem sel_f {b : Bool} {x y : Option α} {r : Option α} (h : b = false) (H : sel b x y = r) : y = r := by subst h; exact H
@[simp] theorem sel_true {x y : Option α} : sel true x y = x := rfl
@[simp] theorem sel_false {x y : Option α} : sel false x y = y := rfl
/-- a check -/
def ck (p : Prop) [Decidable p] (x : Option α) : Option α := if p then x else none
theorem ck_some {p : Prop} [Decidable p] {x : Option α} {r : α} (H : ck p x = some r) : p ∧ x = some r := by
  unfold ck at H; split at H
  · exact ⟨‹_›, H⟩
  · cases H
theorem ck_pos {p : Prop} [Decidable p] {x : Option α} (h : p) : ck p x = x := if_pos h
/-- an element of a list -/
def ix (xs : List X) (i : Int) (k : X → Option α) : Option α := if 0 ≤ i then match xs[i.toNat]? with | some x => k x | none => none else none
theorem ix_some {xs : List X} {i : Int} {k : X → Option α} {r : α} (H : ix xs i k = some r) : ∃ x, xs[i.toNat]? = some x ∧ (0 ≤ i ∧ i < (xs.length : Int)) ∧ k x = some r := by
  unfold ix at H; split at H
  · rename_i h0
    cases hx : xs[i.toNat]? with
    | none => rw [hx] at H; cases H
    | some x =>
      rw [hx] at H
      have := (List.getElem?_eq_some_iff.1 hx).1
      exact ⟨x, rfl, ⟨h0, by omega⟩, H⟩
  · cases H
theorem ix_of {xs : List X} {i : Int} {x : X} {k : X → Option α} (h0 : 0 ≤ i) (hx : xs[i.toNat]? = some x) : ix xs i k = k x := by unfold ix; rw [if_pos h0, hx]
/-- an element of a list, under a guard -/
def ixg (b : Bool) [Inhabited X] (xs : List X) (i : Int) (k : X → Option α) : Option α := match b with | true => ix xs i k | false => k default
theorem ixg_some {b : Bool} [Inhabited X] {xs : List X} {i : Int} {k : X → Option α} {r : α} (H : ixg b xs i k = some r) : ∃ x, (b = true → xs[i.toNat]? = some x) ∧ (b = true → 0 ≤ i ∧ i < (xs.length : Int)) ∧ k x = some r := by
  cases b
  · exact ⟨default, fun h => by simp at h, fun h => by simp at h, H⟩
  · obtain ⟨x, h1, h2, h3⟩ := ix_some H
    exact ⟨x, fun _ => h1, fun _ => h2, h3⟩
@[simp] theorem ixg_true [Inhabited X] {xs : List X} {i : Int} {k : X → Option α} : ixg true xs i k = ix xs i k := rfl
@[simp] theorem ixg_false [Inhabited X] {xs : List X} {i : Int} {k : X → Option α} : ixg false xs i k = k default := rfl
/-- what comes of something -/
def bd (o : Option β) (k : β → Option α) : Option α := match o with | some y => k y | none => none
theorem bd_some {o : Option β} {k : β → Option α} {r : α} (H : bd o k = some r) : ∃ y, o = some y ∧ k y = some r := by
  cases o with
  | none => cases H
  | some y => exact ⟨y, rfl, H⟩
theorem bd_of {o : Option β} {y : β} {k : β → Option α} (h : o = some y) : bd o k = k y := by subst h; rfl
@[simp] theorem bd_some' {y : β} {k : β → Option α} : bd (some y) k = k y := rfl
def bdg (b : Bool) [Inhabited β] (o : Option β) (k : β → Option α) : Option α := match b with | true => bd o k | false => k default
theorem bdg_some {b : Bool} [Inhabited β] {o : Option β} {k : β → Option α} {r : α} (H : bdg b o k = some r) : ∃ y, (b = true → o = some y) ∧ k y = some r := by
  cases b
  · exact ⟨default, fun h => by simp at h, H⟩
  · obtain ⟨y, h1, h2⟩ := bd_some H
    exact ⟨y, fun _ => h1, h2⟩
@[simp] theorem bdg_true [Inhabited β] {o : Option β} {k : β → Option α} : bdg true o k = bd o k := rfl
@[simp] theorem bdg_false [Inhabited β] {o : Option β} {k : β → Option α} : bdg false o k = k default := rfl
/-- behind a part that may leave -/
def thn (t : σ ⊕ τ) (k : σ → Option τ) : Option τ := match t with | .inl s => k s | .inr r => some r
@[simp] theorem thn_inl {s : σ} {k : σ → Option τ} : thn (.inl s) k = k s := rfl
@[simp] theorem thn_inr {r : τ} {k : σ → Option τ} : thn (.inr r) k = some r := rfl
/-- rounds -/
def iterN (f : σ → Option (σ ⊕ τ)) : Nat → σ → Option τ
  | 0, _ => none
  | n + 1, s => match f s with
    | none => none
    | some (.inl s') => iterN f n s'
    | some (.inr t) => some t
theorem iterN_up {f : σ → Option (σ ⊕ τ)} {t : τ} : ∀ {n m : Nat} {s : σ}, iterN f n s = some t → n ≤ m → iterN f m s = some t
  | 0, _, _, h, _ => by cases h
  | n + 1, 0, _, _, hm => by omega
  | n + 1, m + 1, s, h, hm => by
    simp only [iterN] at h ⊢
    cases hf : f s with
    | none => rw [hf] at h; cases h
    | some o =>
      rw [hf] at h
      cases o with
      | inl s' => exact iterN_up h (by omega)
      | inr t' => exact h
theorem least {p : Nat → Prop} {n : Nat} (h : p n) : ∃ n, p n ∧ ∀ m, p m → n ≤ m := by
  induction n using Nat.strongRecOn with
  | _ n ih =>
    by_cases hm : ∃ m, m < n ∧ p m
    · obtain ⟨m, h1, h2⟩ := hm; exact ih m h1 h2
    · exact ⟨n, h, fun m hp => Nat.le_of_not_lt fun hl => hm ⟨m, hl, hp⟩⟩
open Classical in
noncomputable def cnt (f : σ → Option (σ ⊕ τ)) (s : σ) : Nat := if h : ∃ n, (iterN f n s).isSome = true ∧ ∀ m, (iterN f m s).isSome = true → n ≤ m then h.choose else 0
/-- a loop -/
noncomputable def iter (f : σ → Option (σ ⊕ τ)) (s : σ) : Option τ := iterN f (cnt f s) s
theorem cnt_spec {f : σ → Option (σ ⊕ τ)} {s : σ} {n : Nat} {t : τ} (h : iterN f n s = some t) : iter f s = some t ∧ cnt f s ≤ n := by
  have hex : ∃ n, (iterN f n s).isSome = true ∧ ∀ m, (iterN f m s).isSome = true → n ≤ m := least (p := fun n => (iterN f n s).isSome = true) (n := n) (by rw [h]; rfl)
  have hc : cnt f s = hex.choose := by unfold cnt; rw [dif_pos hex]
  have h1 := hex.choose_spec
  rw [← hc] at h1
  have hle := h1.2 n (by rw [h]; rfl)
  refine ⟨?_, hle⟩
  obtain ⟨t', ht'⟩ := Option.isSome_iff_exists.1 h1.1
  have := iterN_up ht' hle
  rw [h] at this; cases this
  exact ht'
def After (f : σ → Option (σ ⊕ τ)) (s : σ) (t : τ) : σ ⊕ τ → Prop
  | .inl s' => iter f s' = some t ∧ cnt f s' < cnt f s
  | .inr t' => t' = t
theorem iter_some {f : σ → Option (σ ⊕ τ)} {s : σ} {t : τ} (h : iter f s = some t) : ∃ o, f s = some o ∧ After f s t o := by
  unfold iter at h
  cases hc : cnt f s with
  | zero => rw [hc] at h; cases h
  | succ n =>
    rw [hc] at h
    simp only [iterN] at h
    cases hf : f s with
    | none => rw [hf] at h; cases h
    | some o =>
      rw [hf] at h
      refine ⟨o, rfl, ?_⟩
      cases o with
      | inl s' =>
        obtain ⟨h1, h2⟩ := cnt_spec h
        exact ⟨h1, by omega⟩
      | inr t' => exact Option.some.inj h
theorem iter_next {f : σ → Option (σ ⊕ τ)} {s s' : σ} {t : τ} (hf : f s = some (.inl s')) (h : iter f s' = some t) : iter f s = some t := by
  refine (cnt_spec (n := cnt f s' + 1) ?_).1
  simp only [iterN, hf]; exact h
theorem iter_last {f : σ → Option (σ ⊕ τ)} {s : σ} {t : τ} (hf : f s = some (.inr t)) : iter f s = some t := by
  refine (cnt_spec (n := 1) ?_).1
  simp only [iterN, hf]
/-- a loop by what holds in it -/
theorem iter_inv {f : σ → Option (σ ⊕ τ)} (I : σ → Prop) (μ : σ → Nat) (Q : τ → Prop) (step : ∀ s, I s → (∃ s', f s = some (.inl s') ∧ I s' ∧ μ s' < μ s) ∨ ∃ t, f s = some (.inr t) ∧ Q t) {s : σ} (h : I s) : ∃ t, iter f s = some t ∧ Q t := by
  have key : ∀ n s, μ s < n → I s → ∃ t, iter f s = some t ∧ Q t := by
    intro n
    induction n with
    | zero => intro s h; omega
    | succ n ih =>
      intro s hn hI
      rcases step s hI with ⟨s', h1, h2, h3⟩ | ⟨t, h1, h2⟩
      · obtain ⟨t, h4, h5⟩ := ih s' (by omega) h2
        exact ⟨t, iter_next h1 h4, h5⟩
      · exact ⟨t, iter_last h1, h2⟩
  exact key _ s (Nat.lt_succ_self _) h
/-- a loop whose result is known -/
theorem iter_eq {f : σ → Option (σ ⊕ τ)} (I : σ → Prop) (μ : σ → Nat) (t : τ) (step : ∀ s, I s → (∃ s', f s = some (.inl s') ∧ I s' ∧ μ s' < μ s) ∨ f s = some (.inr t)) {s : σ} (h : I s) : iter f s = some t := by
  obtain ⟨t', h1, rfl⟩ := iter_inv I μ (· = t) (fun s hs => (step s hs).imp id fun h => ⟨t, h, rfl⟩) h
  exact h1
end plain

def blk (a : Option Addr) : Nat := match a with | some p => p.block | none => 0
def ofs (a : Option Addr) : Nat := match a with | some p => p.off | none => 0
theorem lt_n {X : Type} {xs : List X} {n : Nat} {i : Int} (h : xs.length = n) (hi : 0 ≤ i ∧ i < (xs.length : Int)) : 0 ≤ i ∧ i < (n : Int) := h ▸ hi
section
variable {P : Program} {L : List (Nat × Value)} {ty t : TypeId} {x y : Operand} {k : IntKind} {m : Int} {w₀ : World} {F : Nat → Prop} {M M' Φ : List Res} {X : Type} {a : Option Addr} {e sz n c : Nat} {enc : X → List Value} {xs : List X}
theorem Q.ixa {A : World → Prop} {s len cap : Nat} (ht : P.underlying t = some (.slice e)) (hs : Sz P e s) (hx : Ev L x (.slice a len cap)) (hy : Ev L y (.int k m)) (h : 0 ≤ m ∧ m < len) (ha : ∀ w, A w → ∃ b o, a = some ⟨b, o, none⟩) : Qt P A (.indexAddr t x y) ty L (.pointer (some ⟨blk a, ofs a + m.toNat * s, none⟩)) := by
  intro N D f w o h1 h2 hf hA
  obtain ⟨b, o', rfl⟩ := ha w hA
  exact Q.indexAddr (A := A) ht hs hx hy h N D f w o h1 h2 hf hA
theorem rowG.at_ {l : List Value} {w : World} (h : (rowG e sz a n c l).φ w) (hn : 0 < n) : ∃ g cur, a = some ⟨g, 0, none⟩ ∧ w.heap[g]? = some (.cells cur e (0, 0)) ∧ n ≤ c ∧ c ≤ maxLen ∧ cur.size = c * sz ∧ cur.toList.take (n * sz) = l := by
  rcases h.2 with ⟨_, h0⟩ | ⟨g, cap, cur, hv, _, hg, r1, r2, r3, r4⟩
  · omega
  · injection hv with e1 e2 e3
    subst e3
    exact ⟨g, cur, e1, hg, r1, r2, r3, r4⟩
/-- an element's place, in an owned row -/
theorem Q.ixG (j : Nat) {l : List Value} {f s : Nat} (hj : nth M j = some (rowG f s a n c l)) (ht : P.underlying t = some (.slice e)) (hs : Sz P e sz) (hx : Ev L x (.slice a n c)) (hy : Ev L y (.int k m)) (h : 0 ≤ m ∧ m < (n : Int)) :
    Qt P (St w₀ F M Φ) (.indexAddr t x y) ty L (.pointer (some ⟨blk a, ofs a + m.toNat * sz, none⟩)) :=
  Q.ixa ht hs hx hy h fun w hA => by
    obtain ⟨g, _, h1, _⟩ := rowG.at_ (hA.get j hj) (by omega)
    exact ⟨g, 0, h1⟩
/-- in a shared row -/
theorem Q.ixO (j : Nat) {s : Nat} (hj : nth Φ j = some (rowO a s enc xs)) (ht : P.underlying t = some (.slice e)) (hs : Sz P e sz) (hx : Ev L x (.slice a n c)) (hy : Ev L y (.int k m)) (hn : xs.length = n) (h : 0 ≤ m ∧ m < (n : Int)) :
    Qt P (St w₀ F M Φ) (.indexAddr t x y) ty L (.pointer (some ⟨blk a, ofs a + m.toNat * sz, none⟩)) :=
  Q.ixa ht hs hx hy h fun w hA => seeAddr j hj (by omega) w hA
theorem ldOa (cn j : Nat) (hj : nth Φ j = some (rowO a sz enc xs)) {i q : Nat} {u : X} {vs : List Value} (hx : xs[i]? = some u) (hv : Tk (enc u) q cn vs) : ∀ w, St w₀ F M Φ w → Cells w (blk a) (ofs a + i * sz + q) vs := by
  intro w hA
  obtain ⟨b, o, rfl, _⟩ := hA.see j hj i u hx
  exact ldOT cn j hj hx hv w hA
theorem ldOa0 (cn j : Nat) (hj : nth Φ j = some (rowO a sz enc xs)) {i : Nat} {u : X} {vs : List Value} (hx : xs[i]? = some u) (hv : Tk (enc u) 0 cn vs) : ∀ w, St w₀ F M Φ w → Cells w (blk a) (ofs a + i * sz) vs := ldOa cn j hj hx hv
theorem ldGa (cn j : Nat) (hj : nth M j = some (rowG e sz a n c (xs.flatMap enc))) (h0 : 0 < sz) (hs : ∀ u, (enc u).length = sz) {i q : Nat} {u : X} {vs : List Value} (hx : xs[i]? = some u) (hv : Tk (enc u) q cn vs) : ∀ w, St w₀ F M Φ w → Cells w (blk a) (ofs a + i * sz + q) vs := by
  intro w hA
  obtain ⟨b, o, rfl, hc⟩ := (rowG.rowO h0 (fun u _ => hs u) rfl (hA.get j hj)) i u hx
  exact hc.sub q (fun d v hd => (hv.eq.2 d v hd))
theorem ldGa0 (cn j : Nat) (hj : nth M j = some (rowG e sz a n c (xs.flatMap enc))) (h0 : 0 < sz) (hs : ∀ u, (enc u).length = sz) {i : Nat} {u : X} {vs : List Value} (hx : xs[i]? = some u) (hv : Tk (enc u) 0 cn vs) : ∀ w, St w₀ F M Φ w → Cells w (blk a) (ofs a + i * sz) vs := ldGa cn j hj h0 hs hx hv
theorem putAt_flat {u u' : X} {sz k : Nat} {vs : List Value} (hz : ∀ x, (enc x).length = sz) (hp : Pt (enc u) k vs (enc u')) : ∀ (xs : List X) (i : Nat), xs[i]? = some u → putAt (xs.flatMap enc) (i * sz + k) vs = (xs.set i u').flatMap enc ∧ i * sz + k + vs.length ≤ (xs.flatMap enc).length := by
  obtain ⟨hp1, hp2⟩ := hp.eq
  intro xs
  induction xs with
  | nil => intro i h; simp at h
  | cons z zs ih =>
    intro i h
    cases i with
    | zero =>
      simp at h; subst h
      refine ⟨?_, by simp; omega⟩
      simp only [List.flatMap_cons, List.set_cons_zero, Nat.zero_mul, Nat.zero_add, ← hp1, putAt]
      rw [List.take_append_of_le_length (by omega), List.drop_append_of_le_length (by omega)]
      simp
    | succ i =>
      obtain ⟨h1, h2⟩ := ih i (by simpa using h)
      have e1 : (i + 1) * sz = (enc z).length + i * sz := by rw [hz, Nat.add_mul]; omega
      refine ⟨?_, by rw [e1, List.flatMap_cons, List.length_append]; omega⟩
      simp only [List.flatMap_cons, List.set_cons_succ, ← h1]
      simp only [putAt, e1, Nat.add_assoc, List.take_length_add_append, List.drop_length_add_append, List.append_assoc]
theorem putAt_take {l vs : List Value} {o m : Nat} (h1 : o + vs.length ≤ m) (h2 : m ≤ l.length) : (putAt l o vs).take m = putAt (l.take m) o vs := by
  obtain ⟨k, rfl⟩ : ∃ k, m = o + vs.length + k := ⟨m - (o + vs.length), by omega⟩
  have e : o + vs.length + k = (l.take o ++ vs).length + k := by simp; omega
  unfold putAt
  rw [e, List.take_length_add_append, ← e, List.take_take, Nat.min_eq_left (by omega), List.drop_take]
  congr 2; omega
/-- a store into an owned row -/
theorem S.storeG {i q nv : Nat} {u u' : X} {vs : List Value} {v : Value} (hx : Ev L x (.pointer (some ⟨blk a, ofs a + i * sz + q, none⟩))) (hy : Ev L y v) (hs : Sz P t nv) (hz : ∀ u, (enc u).length = sz) (hv : v.cells = vs.toArray) (hn : vs.length = nv)
    (h1 : ∀ u ∈ vs, u.oneCell' = true) (hu : xs[i]? = some u) (hp : Pt (enc u) q vs (enc u')) (hxn : xs.length = n) (up : Upd M (rowG e sz a n c (xs.flatMap enc)) M' (rowG e sz a n c ((xs.set i u').flatMap enc))) :
    Sk P (St w₀ F M Φ) (.store t x y) ty L (St w₀ F M' Φ) := by
  intro N D f w o ho _ hf hA
  obtain ⟨M0, hpm, hpm'⟩ := up.perm
  have hG := (hA.own_ _ (hpm.mem_iff.2 (List.mem_cons_self ..))).1
  have hil := (List.getElem?_eq_some_iff.1 hu).1
  obtain ⟨g, cur, rfl, hg, r1, r2, r3, r4⟩ := rowG.at_ hG (by omega)
  obtain ⟨k1, k2⟩ := putAt_flat hz hp xs i hu
  have hfl : (xs.flatMap enc).length = n * sz := by rw [flat_len (fun u _ => hz u), hxn]
  have hcl : n * sz ≤ cur.toList.length := by rw [Array.length_toList, r3]; exact Nat.mul_le_mul_right _ r1
  have hrun := run_storeVar_in (P := P) (o := i * sz + q) (l := cur.toList) (T := e) (b := g) (w := w) hs hn hv h1 (by simpa using hg) (by rw [← hn]; omega)
  have hx' : f.eval x = .pointer (some ⟨g, i * sz + q, none⟩) := by have := hx N D f hf; simpa only [blk, ofs, Nat.zero_add] using this
  have hnew : (w.setRow g (putAt cur.toList (i * sz + q) vs).toArray).heap[g]? = some (.cells (putAt cur.toList (i * sz + q) vs).toArray e (0, 0)) := setRow_heap w g _ _ _ _ hg
  refine ⟨_, ?_, hA.upd up ((Eff.setRow (b := g) (cs := (putAt cur.toList (i * sz + q) vs).toArray)).mono fun b _ h => by subst h; rfl) ?_ ?_⟩
  · simp [execOp, ho, hx', hy N D f hf, Instr.storeAt, Instr.sureAddr, hrun]
  · refine ⟨by rw [flat_len (fun u _ => hz u), List.length_set, hxn], .inr ⟨g, c, _, rfl, Nat.zero_le _, hnew, r1, r2, ?_, ?_⟩⟩
    · simp only [putAt, List.size_toArray, List.length_append, List.length_take, List.length_drop, Array.length_toList]
      rw [Array.length_toList] at hcl
      omega
    · rw [← k1, ← r4]
      exact putAt_take (by omega) hcl
  · intro b hb
    simp only [rowG, Value.ownBlock, Option.some.injEq] at hb
    subst hb
    refine ⟨.inl rfl, ?_⟩
    rw [setRow_size]
    exact (Array.getElem?_eq_some_iff.1 hg).1
end
end Go.J
namespace Go.J
open Go Go.RowKit
section
variable {w₀ w : World} {F : Nat → Prop} {M M' Φ : List Res} {X : Type} {a : Option Addr} {e sz n c : Nat} {enc : X → List Value} {xs : List X}
/-- a box is an owned row -/
theorem bx_rowG {b : Nat} (h : (bx b e (xs.flatMap enc)).φ w) (hs : ∀ x, (enc x).length = sz) (hmax : xs.length ≤ maxLen) : (rowG e sz (some ⟨b, 0, none⟩) xs.length xs.length (xs.flatMap enc)).φ w :=
  ⟨flat_len (fun u _ => hs u), .inr ⟨b, xs.length, (xs.flatMap enc).toArray, rfl, Nat.zero_le _, h, Nat.le_refl _, hmax, by simp [flat_len (fun u _ => hs u)], by rw [List.take_of_length_le (by have := flat_len (xs := xs) (fun u _ => hs u); simp only [this]; exact Nat.le_refl _)]⟩⟩
/-- one resource in another's place, in the same blocks -/
theorem St.turn {r s : Res} (h : St w₀ F (r :: M) Φ w) (hU : ∀ b, s.U b → r.U b) (hφ : r.φ w → s.φ w) : St w₀ F (s :: M) Φ w := by
  have h1 := h.own_ r (List.mem_cons_self ..)
  refine ⟨h.eff, ?_, ?_, ?_⟩
  · intro x hx
    rcases List.mem_cons.1 hx with rfl | hx
    · exact ⟨hφ h1.1, fun b hb => h1.2 b (hU b hb)⟩
    · exact h.own_ x (List.mem_cons_of_mem _ hx)
  · have := List.pairwise_cons.1 h.apart
    exact List.pairwise_cons.2 ⟨fun x hx b hb => this.1 x hx b (hU b hb), this.2⟩
  · intro i hi
    obtain ⟨p1, p2, p3⟩ := h.imm i hi
    refine ⟨p1, p2, fun x hx => ?_⟩
    rcases List.mem_cons.1 hx with rfl | hx
    · exact fun b hb => p3 r (List.mem_cons_self ..) b (hU b hb)
    · exact p3 x (List.mem_cons_of_mem _ hx)
theorem St.grow {b : Nat} (h : St w₀ F (bx b e (xs.flatMap enc) :: M) Φ w) (hs : ∀ x, (enc x).length = sz) (hmax : xs.length ≤ maxLen) : St w₀ F (rowG e sz (some ⟨b, 0, none⟩) xs.length xs.length (xs.flatMap enc) :: M) Φ w :=
  h.turn (fun b' hb => by simp only [rowG, Value.ownBlock, Option.some.injEq] at hb; exact hb) (fun h => bx_rowG h hs hmax)
/-- an owned row, as the argument of a call -/
theorem St.okG (h : St w₀ F M Φ w) (j : Nat) (hj : nth M j = some (rowG e sz a n c (xs.flatMap enc))) (h0 : 0 < sz) (hs : ∀ x, (enc x).length = sz) : (rowO a sz enc xs).ok w :=
  rowO.ok_of (fun x _ he => by have := hs x; rw [he] at this; simp at this; omega) (rowG.rowO h0 (fun u _ => hs u) rfl (h.get j hj))
theorem St.okO (h : St w₀ F M Φ w) (j : Nat) (hj : nth Φ j = some (rowO a sz enc xs)) : (rowO a sz enc xs).ok w := h.ok j hj
theorem St.leG {l : List Value} (h : St w₀ F M Φ w) (j : Nat) (hj : nth M j = some (rowG e sz a n c l)) : n ≤ c := by
  rcases (h.get j hj).2 with ⟨hv, h0⟩ | ⟨g, cap, cur, hv, _, _, r1, _⟩
  · omega
  · injection hv with _ _ e3; subst e3; exact r1
end
section lits
variable {r : Option Nat} {P : Program} {N : Nat} {ops : Array Oper} {Q : Exit → Act → World → Prop} {rest : List Oper} {D : List Deferred} {L : List (Nat × Value)} {o : Oper} {w₀ : World} {F : Nat → Prop} {M M' Φ : List Res} {d : Nat}
theorem J.mkG {t e by_ : Nat} {X : Type} {enc : X → List Value} {z : X} {sz : Nat} {x y : Operand} {q q' : IntKind} {m : Int} (hg : o.guard = none) (hd : o.dst = some d) (hn : okd d N L = true) (ho : o.op = .makeSlice t x y)
    (ht : P.underlying t = some (.slice e)) (hi : Inf P e (enc z) by_) (h0 : 0 < sz) (hs : ∀ x, (enc x).length = sz) (hby : by_ ≤ 2048) (hx : Ev L x (.int q m)) (hy : Ev L y (.int q' m)) (hm : 0 ≤ m ∧ m ≤ 68719476736)
    (k : ∀ b, J r P N ops Q rest D ((d, .slice (some ⟨b, 0, none⟩) (List.replicate m.toNat z).length (List.replicate m.toNat z).length) :: L) (St w₀ F (rowG e sz (some ⟨b, 0, none⟩) (List.replicate m.toNat z).length (List.replicate m.toNat z).length ((List.replicate m.toNat z).flatMap enc) :: M) Φ)) :
    J r P N ops Q (o :: rest) D L (St w₀ F M Φ) := by
  obtain ⟨n, rfl⟩ : ∃ n : Nat, m = n := ⟨m.toNat, by omega⟩
  have hb : by_ * n ≤ 281474976710656 := Nat.le_trans (Nat.mul_le_mul hby (show n ≤ 68719476736 by omega)) (by omega)
  refine J.mkS hg hd hn ho ht hi (fun he => by have := hs z; rw [he] at this; simp at this; omega) hx hy hb (by omega) (fun b _ => ?_)
  have hfl : (List.replicate n (enc z)).flatten = (List.replicate n z).flatMap enc := by simp [List.flatMap]
  have hk := k b
  simp only [Int.toNat_natCast, List.length_replicate] at hk ⊢
  refine J.conseq (fun w h => ?_) hk
  rw [hfl] at h
  have := h.grow (sz := sz) hs (by simp [maxLen]; omega)
  simpa using this
/-- a slice literal -/
theorem J.litG {t e by_ : Nat} {zs : List Value} {xs : List Operand} {vs : List Value} {X : Type} {enc : X → List Value} {us : List X} {sz n : Nat} (hg : o.guard = none) (hd : o.dst = some d) (hn : okd d N L = true) {parts : List (Nat × Operand)} (ho : o.op = .buildSlice t n parts.toArray)
    (hp : parts = (xs.zipIdx.map fun x => (x.2, x.1))) (hlen : n = xs.length) (ht : P.underlying t = some (.slice e)) (hi : Inf P e zs by_) (hzs : zs.length = sz) (h0 : 0 < sz) (hs : ∀ x, (enc x).length = sz) (hx : Evs L xs vs) (hv : vs.map Value.cells = us.map (fun u => (enc u).toArray)) (h1 : Nat.blt 0 n = true) (h2 : Nat.ble (n * sz) 16777216 = true) (hul : us.length = n)
    (k : ∀ b, J r P N ops Q rest D ((d, .slice (some ⟨b, 0, none⟩) us.length us.length) :: L) (St w₀ F (rowG e sz (some ⟨b, 0, none⟩) us.length us.length (us.flatMap enc) :: M) Φ)) : J r P N ops Q (o :: rest) D L (St w₀ F M Φ) := by
  have hn2 : n * sz ≤ 16777216 := by simpa using h2
  refine J.lit hg hd hn ho hp hlen ht hi hx (vss := us.map enc) (by rw [hv]; simp) (fun l hl => by obtain ⟨u, _, rfl⟩ := List.mem_map.1 hl; rw [hs, hzs]) (fun he => by rw [he] at hzs; simp at hzs; omega) (fun he => by rw [he] at hlen; simp at hlen; subst hlen; simp at h1) (by rw [hzs]; exact hn2) (fun b _ => ?_)
  have hk := k b
  rw [hul] at hk
  refine J.conseq (fun w h => ?_) hk
  rw [show (us.map enc).flatten = us.flatMap enc by simp [List.flatMap]] at h
  have hmax : us.length ≤ maxLen := by
    rw [hul]; unfold maxLen
    have := Nat.le_mul_of_pos_right n h0
    omega
  have := h.grow hs hmax
  rw [hul] at this
  exact this
theorem Upd.same {M M' : List Res} {r : Res} (h : Upd M r M' r) : M = M' := by
  have key : ∀ {M M' : List Res} {r s : Res}, Upd M r M' s → r = s → M = M' := by
    intro M M' r s h
    induction h with
    | here => intro h; rw [h]
    | there h ih => intro hs; rw [ih hs]
  exact key h rfl
theorem Cells.rows {X : Type} {enc : X → List Value} {sz b : Nat} {w : World} (hs : ∀ x, (enc x).length = sz) : ∀ (ys : List X) (o : Nat), (∀ i x, ys[i]? = some x → Cells w b (o + i * sz) (enc x)) → Cells w b o (ys.flatMap enc)
  | [], o, _ => fun i v h => by simp at h
  | y :: ys, o, h => by
    have h1 := h 0 y rfl
    have h2 := Cells.rows hs ys (o + sz) (fun i x hx => by have := h (i + 1) x hx; rwa [Nat.add_mul, Nat.one_mul, Nat.add_comm (i * sz), ← Nat.add_assoc] at this)
    intro d v hd
    rw [List.flatMap_cons] at hd
    by_cases hlt : d < (enc y).length
    · rw [List.getElem?_append_left hlt] at hd
      have := h1 d v hd
      simpa using this
    · rw [List.getElem?_append_right (by omega)] at hd
      have := h2 _ v hd
      rw [hs] at this
      rw [hs] at hlt
      rwa [show o + sz + (d - sz) = o + d by omega] at this
/-- an empty literal -/
theorem J.litE {t e by_ : Nat} {zs : List Value} {X : Type} {enc : X → List Value} {sz : Nat} (hg : o.guard = none) (hd : o.dst = some d) (hn : okd d N L = true) (ho : o.op = .buildSlice t 0 #[]) (ht : P.underlying t = some (.slice e)) (hi : Inf P e zs by_)
    (k : ∀ b, J r P N ops Q rest D ((d, .slice (some ⟨b, 0, none⟩) ([] : List X).length ([] : List X).length) :: L) (St w₀ F (rowG e sz (some ⟨b, 0, none⟩) ([] : List X).length ([] : List X).length (([] : List X).flatMap enc) :: M) Φ)) : J r P N ops Q (o :: rest) D L (St w₀ F M Φ) := by
  refine J.e (X := Nat) (V := fun b => .slice (some ⟨b, 0, none⟩) 0 0) (B := fun b => St w₀ F (rowG e sz (some ⟨b, 0, none⟩) 0 0 [] :: M) Φ) hg hd hn (by rw [ho]; rfl) ?_ k
  intro N D a w o' ho' _ hf hA
  obtain ⟨i, z, q1, q2, q3, q4, _⟩ := hi
  refine ⟨w.heap.size, w.alloc (cl e []), ?_, ?_⟩
  · simp only [execOp, ho', ho, Instr.buildSlice]
    simp [run_underlying ht, sizeOf, typeInfo, q1, Instr.fill, newRow]
    exact congrArg w.alloc (by rw [show (Array.range 0) = #[] from by simp [Array.range], Array.map_empty])
  · have h1 := hA.extM (r := bx w.heap.size e []) (Eff.alloc w _) (heap_alloc_new w _) (by intro b hb; simp only [own] at hb; subst hb; simp)
    exact St.grow (enc := fun x : Empty => x.elim) (xs := []) (sz := sz) h1 (fun x => x.elim) (by simp)
theorem run_append_zero {w : World} (t ty e : TypeId) (i : TypeInfo) (size : Nat) (ht : P.underlying t = some (.slice e)) (hi : P.info? e = some i) {a a₂ : Option Addr} {n c c₂ : Nat} {l : List Value} (hown : w.ownsRow 0 e size (.slice a n c) n l) :
    (Builtin.append_ #[t, t] ty #[.slice a n c, .slice a₂ 0 c₂]).run P w = .ok (.slice a n c) w := by
  rcases hown.2 with ⟨hv, rfl⟩ | ⟨g, cap, cur, hv, _, _, hnc, _⟩
  · injection hv with e1 e2 e3; subst e1; subst e3
    cases a₂ <;> simp [Builtin.append_, run_underlying ht, sizeOf, typeInfo, hi, Builtin.lenOf, Builtin.firstCells, loadCells, loadCellsFrom]
  · injection hv with e1 e2 e3; subst e1; subst e3
    cases a₂ <;> simp [Builtin.append_, run_underlying ht, sizeOf, typeInfo, hi, Builtin.lenOf, Builtin.firstCells, hnc, storeCells, loadCells, loadCellsFrom]
/-- append to an owned row -/
theorem J.app {t e by_ : Nat} {zs : List Value} {X : Type} {enc : X → List Value} {xs ys : List X} {sz : Nat} {x y : Operand} {a a₂ : Option Addr} {n c m c₂ : Nat} {Mn : Option Addr → Nat → List Res} (hg : o.guard = none) (hd : o.dst = some d) (hn : okd d N L = true)
    (ho : o.op = .call { callee := .builtin .append, args := [x, y].toArray, argTypes := #[t, t] }) (ht : P.underlying t = some (.slice e)) (hi : Inf P e zs by_) (hzs : zs.length = sz) (h0 : 0 < sz) (hs : ∀ x, (enc x).length = sz) (h1 : ∀ x, ∀ u ∈ enc x, u.oneCell' = true) (hby : by_ ≤ 2048)
    (hx : Ev L x (.slice a n c)) (hy : Ev L y (.slice a₂ m c₂)) (hr : ∀ w, St w₀ F M Φ w → (rowO a₂ sz enc ys).ok w) (hxn : xs.length = n) (hm : ys.length = m) (hlen : (xs ++ ys).length ≤ 68719476736)
    (hu : ∀ a' c', Upd M (rowG e sz a n c (xs.flatMap enc)) (Mn a' c') (rowG e sz a' (xs ++ ys).length c' ((xs ++ ys).flatMap enc)))
    (k : ∀ a' c', J r P N ops Q rest D ((d, .slice a' (xs ++ ys).length c') :: L) (St w₀ F (Mn a' c') Φ)) : J r P N ops Q (o :: rest) D L (St w₀ F M Φ) := by
  have hll : (xs ++ ys).length = n + m := by rw [List.length_append, hxn, hm]
  have hbb : (n + m) * by_ ≤ 140737488355328 := by
    rw [← hll]; exact Nat.le_trans (Nat.mul_le_mul hlen hby) (by omega)
  by_cases hm0 : m = 0
  · subst hm0
    have hys : ys = [] := List.eq_nil_of_length_eq_zero hm
    subst hys
    refine J.e (X := Unit) (V := fun _ => .slice a n c) (B := fun _ => St w₀ F M Φ) hg hd hn (by rw [ho]; rfl) ?_ ?_
    · intro N D f w o' ho' _ hf hA
      obtain ⟨i, z, q1, q2, q3, q4, q5⟩ := hi
      obtain ⟨M0, hp, _⟩ := (hu a c).perm
      have hown := (hA.own_ _ (hp.mem_iff.2 (List.mem_cons_self ..))).1
      refine ⟨(), w, ?_, hA⟩
      simp [execOp, ho', ho, resolve, invoke, builtin, hx N D f hf, hy N D f hf, run_append_zero (P := P) t o'.type e i sz ht q1 hown]
    · intro _
      have hk := k a c
      rw [hll, Nat.add_zero] at hk
      refine J.conseq (fun w h => ?_) hk
      have := hu a c
      rw [hll, Nat.add_zero, List.append_nil] at this
      rwa [← this.same]
  · refine J.append (l := xs.flatMap enc) (news := ys.flatMap enc) (Mn := Mn) hg hd hn ho ht hi (fun he => by rw [he] at hzs; simp at hzs; omega) hx hy ?_ (by rw [hzs, flat_len (fun u _ => hs u), hm]) ?_ (by omega) hbb ?_ (by rw [← hll]; exact k)
    · intro w hA
      obtain ⟨b, o, rfl⟩ := rowO.addr (hr w hA).1 (by omega)
      refine ⟨b, o, rfl, Cells.rows hs ys o fun i x hx => ?_⟩
      obtain ⟨b', o', e', hc⟩ := (hr w hA).1 i x hx
      cases e'; exact hc
    · intro u hu
      obtain ⟨x, _, hx⟩ := List.mem_flatMap.1 hu
      exact h1 x u hx
    · intro a' c'
      have := hu a' c'
      rw [hzs]
      rw [hll] at this
      simpa only [List.flatMap_append] using this
end lits
/-- where a part of a slice lies -/
def subA (a : Option Addr) (c lo sz : Nat) : Option Addr := if c = lo then a else a.map (·.add (lo * sz))
section
variable {P : Program} {L : List (Nat × Value)} {ty t : TypeId} {x : Operand} {w₀ : World} {F : Nat → Prop} {M Φ : List Res} {X : Type} {a : Option Addr} {e sz n c : Nat} {enc : X → List Value} {xs : List X}
/-- a part of a slice, nil let in -/
theorem Q.sl {A : World → Prop} {lo hi : Option Operand} {l h : Int} (ht : P.underlying t = some (.slice e)) (hs : Sz P e sz) (hx : Ev L x (.slice a n c))
    (hlo : match lo with | none => l = 0 | some y => ∃ k, Ev L y (.int k l)) (hhi : match hi with | none => h = n | some y => ∃ k, Ev L y (.int k h)) (h1 : 0 ≤ l ∧ l ≤ h ∧ h ≤ n) (hlc : ∀ w, A w → n ≤ c) :
    Qt P A (.slice t x lo hi none) ty L (.slice (subA a c l.toNat sz) (h.toNat - l.toNat) (c - l.toNat)) := by
  intro N D f w o ho _ hf hA
  have hnc := hlc w hA
  obtain ⟨l, rfl⟩ : ∃ k : Nat, l = k := ⟨l.toNat, by omega⟩
  obtain ⟨h, rfl⟩ : ∃ k : Nat, h = k := ⟨h.toNat, by omega⟩
  have e0 := hx N D f hf
  have hh : (h : Int) ≤ c := by omega
  have h00 : (0 : Int) ≤ h := by omega
  have hl0 : l ≤ h := by omega
  have hhc : h ≤ c := by omega
  have hl00 : (0 : Int) ≤ l := by omega
  cases lo with
  | none =>
    simp only at hlo
    obtain rfl : l = 0 := by omega
    cases hi with
    | none =>
      simp only at hhi
      obtain rfl : h = n := by omega
      simp [execOp, ho, e0, Instr.sliceAt, Instr.slice, run_underlying ht, Instr.sliceBounds, hs w, subA]
    | some y =>
      obtain ⟨k2, hy⟩ := hhi
      have e2 := hy N D f hf
      simp [execOp, ho, e0, e2, Instr.sliceAt, Instr.slice, run_underlying ht, Instr.sliceBounds, Instr.sliceBound, asIntOf, hs w, subA, hhc, h00]
  | some z =>
    obtain ⟨k1, hz⟩ := hlo
    have e1 := hz N D f hf
    cases hi with
    | none =>
      simp only at hhi
      obtain rfl : h = n := by omega
      simp [execOp, ho, e0, e1, Instr.sliceAt, Instr.slice, run_underlying ht, Instr.sliceBounds, Instr.sliceBound, asIntOf, hs w, subA, hl0, hl00]
    | some y =>
      obtain ⟨k2, hy⟩ := hhi
      have e2 := hy N D f hf
      simp [execOp, ho, e0, e1, e2, Instr.sliceAt, Instr.slice, run_underlying ht, Instr.sliceBounds, Instr.sliceBound, asIntOf, hs w, subA, hhc, h00, hl0, hl00]
/-- the same, its list told -/
theorem Q.slL {A : World → Prop} {lo hi : Option Operand} {l h : Int} (xs : List X) (ht : P.underlying t = some (.slice e)) (hs : Sz P e sz) (hx : Ev L x (.slice a xs.length c))
    (hlo : match lo with | none => l = 0 | some y => ∃ k, Ev L y (.int k l)) (hhi : match hi with | none => h = xs.length | some y => ∃ k, Ev L y (.int k h)) (h1 : 0 ≤ l ∧ l ≤ h ∧ h ≤ xs.length) (hlc : ∀ w, A w → xs.length ≤ c) :
    Qt P A (.slice t x lo hi none) ty L (.slice (subA a c l.toNat sz) ((xs.take h.toNat).drop l.toNat).length (c - l.toNat)) := by
  have e1 : ((xs.take h.toNat).drop l.toNat).length = h.toNat - l.toNat := by rw [List.length_drop, List.length_take]; omega
  rw [e1]
  exact Q.sl ht hs hx hlo hhi h1 hlc
theorem subRow {w : World} {l h : Nat} (hr : (rowO a sz enc xs).φ w) (h1 : l ≤ h) (h2 : h ≤ xs.length) (hc : xs.length ≤ c) : (rowO (subA a c l sz) sz enc ((xs.take h).drop l)).φ w := by
  intro i u hu
  rw [List.getElem?_drop] at hu
  have hlt := (List.getElem?_eq_some_iff.1 hu).1
  rw [List.length_take] at hlt
  rw [List.getElem?_take_of_lt (by omega)] at hu
  obtain ⟨b, o, rfl, hc'⟩ := hr (l + i) u hu
  refine ⟨b, o + l * sz, ?_, ?_⟩
  · unfold subA
    rw [if_neg (by omega)]
    simp [Addr.add_lit]
  · rwa [Nat.add_mul, ← Nat.add_assoc] at hc'
theorem subRow_ok {w : World} {l h : Nat} (h0 : 0 < sz) (hs : ∀ x, (enc x).length = sz) (hr : (rowO a sz enc xs).ok w) (h1 : l ≤ h) (h2 : h ≤ xs.length) (hc : xs.length ≤ c) : (rowO (subA a c l sz) sz enc ((xs.take h).drop l)).ok w :=
  rowO.ok_of (fun x _ he => by have := hs x; rw [he] at this; simp at this; omega) (subRow hr.1 h1 h2 hc)
theorem sub_le {c l h : Nat} (hc : xs.length ≤ c) : ((xs.take h).drop l).length ≤ c - l := by rw [List.length_drop, List.length_take]; omega
theorem sl_len {X : Type} {xs ys : List X} (h : ys.length = xs.length) {t : Nat} {a : Option Addr} {c : Nat} : (some (t, Value.slice a xs.length c) : Option (Nat × Value)) = some (t, Value.slice a ys.length c) := by rw [h]
theorem sl_set {X : Type} {xs : List X} {i : Nat} {u : X} {t : Nat} {a : Option Addr} {c : Nat} : (some (t, Value.slice a xs.length c) : Option (Nat × Value)) = some (t, Value.slice a (xs.set i u).length c) := by rw [List.length_set]
/-- a store into an owned row, its length told by its list -/
theorem S.storeL {y : Operand} {M' : List Res} {i q nv : Nat} {u u' : X} {vs : List Value} {v : Value} (hx : Ev L x (.pointer (some ⟨blk a, ofs a + i * sz + q, none⟩))) (hy : Ev L y v) (hs : Sz P t nv) (hz : ∀ u, (enc u).length = sz) (hv : v.cells = vs.toArray) (hn : vs.length = nv)
    (h1 : ∀ u ∈ vs, u.oneCell' = true) (hu : xs[i]? = some u) (hp : Pt (enc u) q vs (enc u')) (up : Upd M (rowG e sz a xs.length c (xs.flatMap enc)) M' (rowG e sz a (xs.set i u').length c ((xs.set i u').flatMap enc))) :
    Sk P (St w₀ F M Φ) (.store t x y) ty L (St w₀ F M' Φ) := by
  rw [List.length_set] at up
  exact S.storeG hx hy hs hz hv hn h1 hu hp rfl up
theorem S.storeL0 {y : Operand} {M' : List Res} {i nv : Nat} {u u' : X} {vs : List Value} {v : Value} (hx : Ev L x (.pointer (some ⟨blk a, ofs a + i * sz, none⟩))) (hy : Ev L y v) (hs : Sz P t nv) (hz : ∀ u, (enc u).length = sz) (hv : v.cells = vs.toArray) (hn : vs.length = nv)
    (h1 : ∀ u ∈ vs, u.oneCell' = true) (hu : xs[i]? = some u) (hp : Pt (enc u) 0 vs (enc u')) (up : Upd M (rowG e sz a xs.length c (xs.flatMap enc)) M' (rowG e sz a (xs.set i u').length c ((xs.set i u').flatMap enc))) :
    Sk P (St w₀ F M Φ) (.store t x y) ty L (St w₀ F M' Φ) := S.storeL (q := 0) hx hy hs hz hv hn h1 hu hp up
end
abbrev I64ok (z : Int) : Prop := -9223372036854775808 ≤ z ∧ z ≤ 9223372036854775807
/-- one cell after the other -/
inductive Ones : List Value → Prop
  | nil : Ones []
  | cons {v : Value} {l : List Value} (h : v.oneCell' = true) (t : Ones l) : Ones (v :: l)
theorem Ones.all {l : List Value} (h : Ones l) : ∀ u ∈ l, u.oneCell' = true := by
  induction h with
  | nil => intro u hu; simp at hu
  | cons h _ ih =>
    intro u hu
    rcases List.mem_cons.1 hu with rfl | hu
    · exact h
    · exact ih u hu
end Go.J
namespace Go.J
open Go Go.RowKit
set_option linter.unusedVariables false
theorem okNil {w : World} : ∀ i ∈ ([] : List Res), i.ok w := fun _ h => by simp at h
theorem okCons {w : World} {r : Res} {l : List Res} (h : r.ok w) (t : ∀ i ∈ l, i.ok w) : ∀ i ∈ r :: l, i.ok w := fun i hi => by
  rcases List.mem_cons.1 hi with rfl | hi
  · exact h
  · exact t i hi
def enK (k : IntKind) (x : Int) : List Value := [.int k x]
def enB (x : Bool) : List Value := [.bool x]
def enS (x : ByteArray) : List Value := [.string x]
section
variable {r : Option Nat} {P : Program} {N : Nat} {Q : Exit → Act → World → Prop} {D : List Deferred} {K : List (Nat × Value)} {A : World → Prop} {c : Code} {σ τ ρ : Type} {f : σ → Option (σ ⊕ τ)} {t : τ}
def Again (N : Nat) (D : List Deferred) (f : σ → Option (σ ⊕ τ)) (t : τ) (Lg : σ → ρ → List (Nat × Value)) (Ag : σ → ρ → World → Prop) (m : Nat) : Act → World → Prop :=
  fun a w => ∃ g : { g : σ × ρ // iter f g.1 = some t }, FOK N D (Lg g.1.1 g.1.2) a ∧ Ag g.1.1 g.1.2 w ∧ cnt f g.1.1 < m
theorem X.nxi {L : List (Nat × Value)} {Lg : σ → ρ → List (Nat × Value)} {Ag : σ → ρ → World → Prop} {m : Nat} (s' : σ) (r' : ρ) (ho : iter f s' = some t ∧ cnt f s' < m) (s : Sel L (Lg s' r')) (hA : ∀ w, A w → Ag s' r' w) :
    X N .normal (Exit.then (Again N D f t Lg Ag m) Q) D L A :=
  X.nx (G := { g : σ × ρ // iter f g.1 = some t }) (Lg := fun g => Lg g.1.1 g.1.2) (Ag := fun g => Ag g.1.1 g.1.2) (μ := fun g => cnt f g.1.1) ⟨(s', r'), ho.1⟩ s hA ho.2
theorem C.it_0   (Ag : σ → ρ → World → Prop) (s0 : σ) (r0 : ρ) (ht : iter f s0 = some t)  (h0 : ∀ w, A w → Ag s0 r0 w)
    (round : ∀ s ρ' o, f s = some o → After f s t o → C r P N c (Exit.then (Again N D f t (fun s ρ' => K) Ag (cnt f s)) Q) D (K) (Ag s ρ')) : C r P N (.loop c) Q D (K) A :=
  C.loop (G := { g : σ × ρ // iter f g.1 = some t }) (fun g => (fun s ρ' => K) g.1.1 g.1.2) (fun g => Ag g.1.1 g.1.2) (fun g => cnt f g.1.1) ⟨(s0, r0), ht⟩ (by  intro p hp; exact hp) h0
    (fun g => by obtain ⟨o, h1, h2⟩ := iter_some g.2; exact round g.1.1 g.1.2 o h1 h2)
theorem C.it_1 {d1 : Nat} {v1 : Value} (f1 : σ → ρ → Value) (Ag : σ → ρ → World → Prop) (s0 : σ) (r0 : ρ) (ht : iter f s0 = some t) (e1 : v1 = f1 s0 r0) (h0 : ∀ w, A w → Ag s0 r0 w)
    (round : ∀ s ρ' o, f s = some o → After f s t o → C r P N c (Exit.then (Again N D f t (fun s ρ' => (d1, f1 s ρ') :: K) Ag (cnt f s)) Q) D ((d1, f1 s ρ') :: K) (Ag s ρ')) : C r P N (.loop c) Q D ((d1, v1) :: K) A :=
  C.loop (G := { g : σ × ρ // iter f g.1 = some t }) (fun g => (fun s ρ' => (d1, f1 s ρ') :: K) g.1.1 g.1.2) (fun g => Ag g.1.1 g.1.2) (fun g => cnt f g.1.1) ⟨(s0, r0), ht⟩ (by subst e1;  intro p hp; exact hp) h0
    (fun g => by obtain ⟨o, h1, h2⟩ := iter_some g.2; exact round g.1.1 g.1.2 o h1 h2)
theorem C.it_2 {d1 d2 : Nat} {v1 v2 : Value} (f1 : σ → ρ → Value) (f2 : σ → ρ → Value) (Ag : σ → ρ → World → Prop) (s0 : σ) (r0 : ρ) (ht : iter f s0 = some t) (e1 : v1 = f1 s0 r0) (e2 : v2 = f2 s0 r0) (h0 : ∀ w, A w → Ag s0 r0 w)
    (round : ∀ s ρ' o, f s = some o → After f s t o → C r P N c (Exit.then (Again N D f t (fun s ρ' => (d1, f1 s ρ') :: (d2, f2 s ρ') :: K) Ag (cnt f s)) Q) D ((d1, f1 s ρ') :: (d2, f2 s ρ') :: K) (Ag s ρ')) : C r P N (.loop c) Q D ((d1, v1) :: (d2, v2) :: K) A :=
  C.loop (G := { g : σ × ρ // iter f g.1 = some t }) (fun g => (fun s ρ' => (d1, f1 s ρ') :: (d2, f2 s ρ') :: K) g.1.1 g.1.2) (fun g => Ag g.1.1 g.1.2) (fun g => cnt f g.1.1) ⟨(s0, r0), ht⟩ (by subst e1; subst e2;  intro p hp; exact hp) h0
    (fun g => by obtain ⟨o, h1, h2⟩ := iter_some g.2; exact round g.1.1 g.1.2 o h1 h2)
theorem C.it_3 {d1 d2 d3 : Nat} {v1 v2 v3 : Value} (f1 : σ → ρ → Value) (f2 : σ → ρ → Value) (f3 : σ → ρ → Value) (Ag : σ → ρ → World → Prop) (s0 : σ) (r0 : ρ) (ht : iter f s0 = some t) (e1 : v1 = f1 s0 r0) (e2 : v2 = f2 s0 r0) (e3 : v3 = f3 s0 r0) (h0 : ∀ w, A w → Ag s0 r0 w)
    (round : ∀ s ρ' o, f s = some o → After f s t o → C r P N c (Exit.then (Again N D f t (fun s ρ' => (d1, f1 s ρ') :: (d2, f2 s ρ') :: (d3, f3 s ρ') :: K) Ag (cnt f s)) Q) D ((d1, f1 s ρ') :: (d2, f2 s ρ') :: (d3, f3 s ρ') :: K) (Ag s ρ')) : C r P N (.loop c) Q D ((d1, v1) :: (d2, v2) :: (d3, v3) :: K) A :=
  C.loop (G := { g : σ × ρ // iter f g.1 = some t }) (fun g => (fun s ρ' => (d1, f1 s ρ') :: (d2, f2 s ρ') :: (d3, f3 s ρ') :: K) g.1.1 g.1.2) (fun g => Ag g.1.1 g.1.2) (fun g => cnt f g.1.1) ⟨(s0, r0), ht⟩ (by subst e1; subst e2; subst e3;  intro p hp; exact hp) h0
    (fun g => by obtain ⟨o, h1, h2⟩ := iter_some g.2; exact round g.1.1 g.1.2 o h1 h2)
theorem C.it_4 {d1 d2 d3 d4 : Nat} {v1 v2 v3 v4 : Value} (f1 : σ → ρ → Value) (f2 : σ → ρ → Value) (f3 : σ → ρ → Value) (f4 : σ → ρ → Value) (Ag : σ → ρ → World → Prop) (s0 : σ) (r0 : ρ) (ht : iter f s0 = some t) (e1 : v1 = f1 s0 r0) (e2 : v2 = f2 s0 r0) (e3 : v3 = f3 s0 r0) (e4 : v4 = f4 s0 r0) (h0 : ∀ w, A w → Ag s0 r0 w)
    (round : ∀ s ρ' o, f s = some o → After f s t o → C r P N c (Exit.then (Again N D f t (fun s ρ' => (d1, f1 s ρ') :: (d2, f2 s ρ') :: (d3, f3 s ρ') :: (d4, f4 s ρ') :: K) Ag (cnt f s)) Q) D ((d1, f1 s ρ') :: (d2, f2 s ρ') :: (d3, f3 s ρ') :: (d4, f4 s ρ') :: K) (Ag s ρ')) : C r P N (.loop c) Q D ((d1, v1) :: (d2, v2) :: (d3, v3) :: (d4, v4) :: K) A :=
  C.loop (G := { g : σ × ρ // iter f g.1 = some t }) (fun g => (fun s ρ' => (d1, f1 s ρ') :: (d2, f2 s ρ') :: (d3, f3 s ρ') :: (d4, f4 s ρ') :: K) g.1.1 g.1.2) (fun g => Ag g.1.1 g.1.2) (fun g => cnt f g.1.1) ⟨(s0, r0), ht⟩ (by subst e1; subst e2; subst e3; subst e4;  intro p hp; exact hp) h0
    (fun g => by obtain ⟨o, h1, h2⟩ := iter_some g.2; exact round g.1.1 g.1.2 o h1 h2)
theorem C.it_5 {d1 d2 d3 d4 d5 : Nat} {v1 v2 v3 v4 v5 : Value} (f1 : σ → ρ → Value) (f2 : σ → ρ → Value) (f3 : σ → ρ → Value) (f4 : σ → ρ → Value) (f5 : σ → ρ → Value) (Ag : σ → ρ → World → Prop) (s0 : σ) (r0 : ρ) (ht : iter f s0 = some t) (e1 : v1 = f1 s0 r0) (e2 : v2 = f2 s0 r0) (e3 : v3 = f3 s0 r0) (e4 : v4 = f4 s0 r0) (e5 : v5 = f5 s0 r0) (h0 : ∀ w, A w → Ag s0 r0 w)
    (round : ∀ s ρ' o, f s = some o → After f s t o → C r P N c (Exit.then (Again N D f t (fun s ρ' => (d1, f1 s ρ') :: (d2, f2 s ρ') :: (d3, f3 s ρ') :: (d4, f4 s ρ') :: (d5, f5 s ρ') :: K) Ag (cnt f s)) Q) D ((d1, f1 s ρ') :: (d2, f2 s ρ') :: (d3, f3 s ρ') :: (d4, f4 s ρ') :: (d5, f5 s ρ') :: K) (Ag s ρ')) : C r P N (.loop c) Q D ((d1, v1) :: (d2, v2) :: (d3, v3) :: (d4, v4) :: (d5, v5) :: K) A :=
  C.loop (G := { g : σ × ρ // iter f g.1 = some t }) (fun g => (fun s ρ' => (d1, f1 s ρ') :: (d2, f2 s ρ') :: (d3, f3 s ρ') :: (d4, f4 s ρ') :: (d5, f5 s ρ') :: K) g.1.1 g.1.2) (fun g => Ag g.1.1 g.1.2) (fun g => cnt f g.1.1) ⟨(s0, r0), ht⟩ (by subst e1; subst e2; subst e3; subst e4; subst e5;  intro p hp; exact hp) h0
    (fun g => by obtain ⟨o, h1, h2⟩ := iter_some g.2; exact round g.1.1 g.1.2 o h1 h2)
theorem C.it_6 {d1 d2 d3 d4 d5 d6 : Nat} {v1 v2 v3 v4 v5 v6 : Value} (f1 : σ → ρ → Value) (f2 : σ → ρ → Value) (f3 : σ → ρ → Value) (f4 : σ → ρ → Value) (f5 : σ → ρ → Value) (f6 : σ → ρ → Value) (Ag : σ → ρ → World → Prop) (s0 : σ) (r0 : ρ) (ht : iter f s0 = some t) (e1 : v1 = f1 s0 r0) (e2 : v2 = f2 s0 r0) (e3 : v3 = f3 s0 r0) (e4 : v4 = f4 s0 r0) (e5 : v5 = f5 s0 r0) (e6 : v6 = f6 s0 r0) (h0 : ∀ w, A w → Ag s0 r0 w)
    (round : ∀ s ρ' o, f s = some o → After f s t o → C r P N c (Exit.then (Again N D f t (fun s ρ' => (d1, f1 s ρ') :: (d2, f2 s ρ') :: (d3, f3 s ρ') :: (d4, f4 s ρ') :: (d5, f5 s ρ') :: (d6, f6 s ρ') :: K) Ag (cnt f s)) Q) D ((d1, f1 s ρ') :: (d2, f2 s ρ') :: (d3, f3 s ρ') :: (d4, f4 s ρ') :: (d5, f5 s ρ') :: (d6, f6 s ρ') :: K) (Ag s ρ')) : C r P N (.loop c) Q D ((d1, v1) :: (d2, v2) :: (d3, v3) :: (d4, v4) :: (d5, v5) :: (d6, v6) :: K) A :=
  C.loop (G := { g : σ × ρ // iter f g.1 = some t }) (fun g => (fun s ρ' => (d1, f1 s ρ') :: (d2, f2 s ρ') :: (d3, f3 s ρ') :: (d4, f4 s ρ') :: (d5, f5 s ρ') :: (d6, f6 s ρ') :: K) g.1.1 g.1.2) (fun g => Ag g.1.1 g.1.2) (fun g => cnt f g.1.1) ⟨(s0, r0), ht⟩ (by subst e1; subst e2; subst e3; subst e4; subst e5; subst e6;  intro p hp; exact hp) h0
    (fun g => by obtain ⟨o, h1, h2⟩ := iter_some g.2; exact round g.1.1 g.1.2 o h1 h2)
theorem C.it_7 {d1 d2 d3 d4 d5 d6 d7 : Nat} {v1 v2 v3 v4 v5 v6 v7 : Value} (f1 : σ → ρ → Value) (f2 : σ → ρ → Value) (f3 : σ → ρ → Value) (f4 : σ → ρ → Value) (f5 : σ → ρ → Value) (f6 : σ → ρ → Value) (f7 : σ → ρ → Value) (Ag : σ → ρ → World → Prop) (s0 : σ) (r0 : ρ) (ht : iter f s0 = some t) (e1 : v1 = f1 s0 r0) (e2 : v2 = f2 s0 r0) (e3 : v3 = f3 s0 r0) (e4 : v4 = f4 s0 r0) (e5 : v5 = f5 s0 r0) (e6 : v6 = f6 s0 r0) (e7 : v7 = f7 s0 r0) (h0 : ∀ w, A w → Ag s0 r0 w)
    (round : ∀ s ρ' o, f s = some o → After f s t o → C r P N c (Exit.then (Again N D f t (fun s ρ' => (d1, f1 s ρ') :: (d2, f2 s ρ') :: (d3, f3 s ρ') :: (d4, f4 s ρ') :: (d5, f5 s ρ') :: (d6, f6 s ρ') :: (d7, f7 s ρ') :: K) Ag (cnt f s)) Q) D ((d1, f1 s ρ') :: (d2, f2 s ρ') :: (d3, f3 s ρ') :: (d4, f4 s ρ') :: (d5, f5 s ρ') :: (d6, f6 s ρ') :: (d7, f7 s ρ') :: K) (Ag s ρ')) : C r P N (.loop c) Q D ((d1, v1) :: (d2, v2) :: (d3, v3) :: (d4, v4) :: (d5, v5) :: (d6, v6) :: (d7, v7) :: K) A :=
  C.loop (G := { g : σ × ρ // iter f g.1 = some t }) (fun g => (fun s ρ' => (d1, f1 s ρ') :: (d2, f2 s ρ') :: (d3, f3 s ρ') :: (d4, f4 s ρ') :: (d5, f5 s ρ') :: (d6, f6 s ρ') :: (d7, f7 s ρ') :: K) g.1.1 g.1.2) (fun g => Ag g.1.1 g.1.2) (fun g => cnt f g.1.1) ⟨(s0, r0), ht⟩ (by subst e1; subst e2; subst e3; subst e4; subst e5; subst e6; subst e7;  intro p hp; exact hp) h0
    (fun g => by obtain ⟨o, h1, h2⟩ := iter_some g.2; exact round g.1.1 g.1.2 o h1 h2)
theorem C.it_8 {d1 d2 d3 d4 d5 d6 d7 d8 : Nat} {v1 v2 v3 v4 v5 v6 v7 v8 : Value} (f1 : σ → ρ → Value) (f2 : σ → ρ → Value) (f3 : σ → ρ → Value) (f4 : σ → ρ → Value) (f5 : σ → ρ → Value) (f6 : σ → ρ → Value) (f7 : σ → ρ → Value) (f8 : σ → ρ → Value) (Ag : σ → ρ → World → Prop) (s0 : σ) (r0 : ρ) (ht : iter f s0 = some t) (e1 : v1 = f1 s0 r0) (e2 : v2 = f2 s0 r0) (e3 : v3 = f3 s0 r0) (e4 : v4 = f4 s0 r0) (e5 : v5 = f5 s0 r0) (e6 : v6 = f6 s0 r0) (e7 : v7 = f7 s0 r0) (e8 : v8 = f8 s0 r0) (h0 : ∀ w, A w → Ag s0 r0 w)
    (round : ∀ s ρ' o, f s = some o → After f s t o → C r P N c (Exit.then (Again N D f t (fun s ρ' => (d1, f1 s ρ') :: (d2, f2 s ρ') :: (d3, f3 s ρ') :: (d4, f4 s ρ') :: (d5, f5 s ρ') :: (d6, f6 s ρ') :: (d7, f7 s ρ') :: (d8, f8 s ρ') :: K) Ag (cnt f s)) Q) D ((d1, f1 s ρ') :: (d2, f2 s ρ') :: (d3, f3 s ρ') :: (d4, f4 s ρ') :: (d5, f5 s ρ') :: (d6, f6 s ρ') :: (d7, f7 s ρ') :: (d8, f8 s ρ') :: K) (Ag s ρ')) : C r P N (.loop c) Q D ((d1, v1) :: (d2, v2) :: (d3, v3) :: (d4, v4) :: (d5, v5) :: (d6, v6) :: (d7, v7) :: (d8, v8) :: K) A :=
  C.loop (G := { g : σ × ρ // iter f g.1 = some t }) (fun g => (fun s ρ' => (d1, f1 s ρ') :: (d2, f2 s ρ') :: (d3, f3 s ρ') :: (d4, f4 s ρ') :: (d5, f5 s ρ') :: (d6, f6 s ρ') :: (d7, f7 s ρ') :: (d8, f8 s ρ') :: K) g.1.1 g.1.2) (fun g => Ag g.1.1 g.1.2) (fun g => cnt f g.1.1) ⟨(s0, r0), ht⟩ (by subst e1; subst e2; subst e3; subst e4; subst e5; subst e6; subst e7; subst e8;  intro p hp; exact hp) h0
    (fun g => by obtain ⟨o, h1, h2⟩ := iter_some g.2; exact round g.1.1 g.1.2 o h1 h2)
theorem C.it_9 {d1 d2 d3 d4 d5 d6 d7 d8 d9 : Nat} {v1 v2 v3 v4 v5 v6 v7 v8 v9 : Value} (f1 : σ → ρ → Value) (f2 : σ → ρ → Value) (f3 : σ → ρ → Value) (f4 : σ → ρ → Value) (f5 : σ → ρ → Value) (f6 : σ → ρ → Value) (f7 : σ → ρ → Value) (f8 : σ → ρ → Value) (f9 : σ → ρ → Value) (Ag : σ → ρ → World → Prop) (s0 : σ) (r0 : ρ) (ht : iter f s0 = some t) (e1 : v1 = f1 s0 r0) (e2 : v2 = f2 s0 r0) (e3 : v3 = f3 s0 r0) (e4 : v4 = f4 s0 r0) (e5 : v5 = f5 s0 r0) (e6 : v6 = f6 s0 r0) (e7 : v7 = f7 s0 r0) (e8 : v8 = f8 s0 r0) (e9 : v9 = f9 s0 r0) (h0 : ∀ w, A w → Ag s0 r0 w)
    (round : ∀ s ρ' o, f s = some o → After f s t o → C r P N c (Exit.then (Again N D f t (fun s ρ' => (d1, f1 s ρ') :: (d2, f2 s ρ') :: (d3, f3 s ρ') :: (d4, f4 s ρ') :: (d5, f5 s ρ') :: (d6, f6 s ρ') :: (d7, f7 s ρ') :: (d8, f8 s ρ') :: (d9, f9 s ρ') :: K) Ag (cnt f s)) Q) D ((d1, f1 s ρ') :: (d2, f2 s ρ') :: (d3, f3 s ρ') :: (d4, f4 s ρ') :: (d5, f5 s ρ') :: (d6, f6 s ρ') :: (d7, f7 s ρ') :: (d8, f8 s ρ') :: (d9, f9 s ρ') :: K) (Ag s ρ')) : C r P N (.loop c) Q D ((d1, v1) :: (d2, v2) :: (d3, v3) :: (d4, v4) :: (d5, v5) :: (d6, v6) :: (d7, v7) :: (d8, v8) :: (d9, v9) :: K) A :=
  C.loop (G := { g : σ × ρ // iter f g.1 = some t }) (fun g => (fun s ρ' => (d1, f1 s ρ') :: (d2, f2 s ρ') :: (d3, f3 s ρ') :: (d4, f4 s ρ') :: (d5, f5 s ρ') :: (d6, f6 s ρ') :: (d7, f7 s ρ') :: (d8, f8 s ρ') :: (d9, f9 s ρ') :: K) g.1.1 g.1.2) (fun g => Ag g.1.1 g.1.2) (fun g => cnt f g.1.1) ⟨(s0, r0), ht⟩ (by subst e1; subst e2; subst e3; subst e4; subst e5; subst e6; subst e7; subst e8; subst e9;  intro p hp; exact hp) h0
    (fun g => by obtain ⟨o, h1, h2⟩ := iter_some g.2; exact round g.1.1 g.1.2 o h1 h2)
theorem C.cutq {G : Type} {x y : Code} {L : List (Nat × Value)} (Lg : G → List (Nat × Value)) (Ag : G → World → Prop)
    (h : C r P N x (Exit.then (fun a w => ∃ g, FOK N D (Lg g) a ∧ Ag g w) Q) D L A) (k : ∀ g, C r P N y Q D (Lg g) (Ag g)) : C r P N x (Exit.then (y.wpIn (Wf r) 0 P Q) Q) D L A := fun a w hf hA =>
  wpIn_mono (h a w hf hA) fun e a' w' hq => by
    cases e with
    | normal => obtain ⟨g, h1, h2⟩ := hq; exact k g a' w' h1 h2
    | _ => exact hq
theorem C.cutq_0 {G : Type} {x y : Code} {L : List (Nat × Value)}   (_sK : Sel L K) (Ag : G → World → Prop)
    (h : C r P N x (Exit.then (fun a w => ∃ g, FOK N D (K) a ∧ Ag g w) Q) D L A) (k : ∀ g, C r P N y Q D (K) (Ag g)) : C r P N x (Exit.then (y.wpIn (Wf r) 0 P Q) Q) D L A := C.cutq (fun g => K) Ag h k
theorem C.cutq_1 {G : Type} {x y : Code} {L : List (Nat × Value)} {d1 : Nat} (f1 : G → Value) (_sK : Sel L K) (Ag : G → World → Prop)
    (h : C r P N x (Exit.then (fun a w => ∃ g, FOK N D ((d1, f1 g) :: K) a ∧ Ag g w) Q) D L A) (k : ∀ g, C r P N y Q D ((d1, f1 g) :: K) (Ag g)) : C r P N x (Exit.then (y.wpIn (Wf r) 0 P Q) Q) D L A := C.cutq (fun g => (d1, f1 g) :: K) Ag h k
theorem C.cutq_2 {G : Type} {x y : Code} {L : List (Nat × Value)} {d1 d2 : Nat} (f1 : G → Value) (f2 : G → Value) (_sK : Sel L K) (Ag : G → World → Prop)
    (h : C r P N x (Exit.then (fun a w => ∃ g, FOK N D ((d1, f1 g) :: (d2, f2 g) :: K) a ∧ Ag g w) Q) D L A) (k : ∀ g, C r P N y Q D ((d1, f1 g) :: (d2, f2 g) :: K) (Ag g)) : C r P N x (Exit.then (y.wpIn (Wf r) 0 P Q) Q) D L A := C.cutq (fun g => (d1, f1 g) :: (d2, f2 g) :: K) Ag h k
theorem C.cutq_3 {G : Type} {x y : Code} {L : List (Nat × Value)} {d1 d2 d3 : Nat} (f1 : G → Value) (f2 : G → Value) (f3 : G → Value) (_sK : Sel L K) (Ag : G → World → Prop)
    (h : C r P N x (Exit.then (fun a w => ∃ g, FOK N D ((d1, f1 g) :: (d2, f2 g) :: (d3, f3 g) :: K) a ∧ Ag g w) Q) D L A) (k : ∀ g, C r P N y Q D ((d1, f1 g) :: (d2, f2 g) :: (d3, f3 g) :: K) (Ag g)) : C r P N x (Exit.then (y.wpIn (Wf r) 0 P Q) Q) D L A := C.cutq (fun g => (d1, f1 g) :: (d2, f2 g) :: (d3, f3 g) :: K) Ag h k
theorem C.cutq_4 {G : Type} {x y : Code} {L : List (Nat × Value)} {d1 d2 d3 d4 : Nat} (f1 : G → Value) (f2 : G → Value) (f3 : G → Value) (f4 : G → Value) (_sK : Sel L K) (Ag : G → World → Prop)
    (h : C r P N x (Exit.then (fun a w => ∃ g, FOK N D ((d1, f1 g) :: (d2, f2 g) :: (d3, f3 g) :: (d4, f4 g) :: K) a ∧ Ag g w) Q) D L A) (k : ∀ g, C r P N y Q D ((d1, f1 g) :: (d2, f2 g) :: (d3, f3 g) :: (d4, f4 g) :: K) (Ag g)) : C r P N x (Exit.then (y.wpIn (Wf r) 0 P Q) Q) D L A := C.cutq (fun g => (d1, f1 g) :: (d2, f2 g) :: (d3, f3 g) :: (d4, f4 g) :: K) Ag h k
theorem C.cutq_5 {G : Type} {x y : Code} {L : List (Nat × Value)} {d1 d2 d3 d4 d5 : Nat} (f1 : G → Value) (f2 : G → Value) (f3 : G → Value) (f4 : G → Value) (f5 : G → Value) (_sK : Sel L K) (Ag : G → World → Prop)
    (h : C r P N x (Exit.then (fun a w => ∃ g, FOK N D ((d1, f1 g) :: (d2, f2 g) :: (d3, f3 g) :: (d4, f4 g) :: (d5, f5 g) :: K) a ∧ Ag g w) Q) D L A) (k : ∀ g, C r P N y Q D ((d1, f1 g) :: (d2, f2 g) :: (d3, f3 g) :: (d4, f4 g) :: (d5, f5 g) :: K) (Ag g)) : C r P N x (Exit.then (y.wpIn (Wf r) 0 P Q) Q) D L A := C.cutq (fun g => (d1, f1 g) :: (d2, f2 g) :: (d3, f3 g) :: (d4, f4 g) :: (d5, f5 g) :: K) Ag h k
theorem C.cutq_6 {G : Type} {x y : Code} {L : List (Nat × Value)} {d1 d2 d3 d4 d5 d6 : Nat} (f1 : G → Value) (f2 : G → Value) (f3 : G → Value) (f4 : G → Value) (f5 : G → Value) (f6 : G → Value) (_sK : Sel L K) (Ag : G → World → Prop)
    (h : C r P N x (Exit.then (fun a w => ∃ g, FOK N D ((d1, f1 g) :: (d2, f2 g) :: (d3, f3 g) :: (d4, f4 g) :: (d5, f5 g) :: (d6, f6 g) :: K) a ∧ Ag g w) Q) D L A) (k : ∀ g, C r P N y Q D ((d1, f1 g) :: (d2, f2 g) :: (d3, f3 g) :: (d4, f4 g) :: (d5, f5 g) :: (d6, f6 g) :: K) (Ag g)) : C r P N x (Exit.then (y.wpIn (Wf r) 0 P Q) Q) D L A := C.cutq (fun g => (d1, f1 g) :: (d2, f2 g) :: (d3, f3 g) :: (d4, f4 g) :: (d5, f5 g) :: (d6, f6 g) :: K) Ag h k
theorem C.cutq_7 {G : Type} {x y : Code} {L : List (Nat × Value)} {d1 d2 d3 d4 d5 d6 d7 : Nat} (f1 : G → Value) (f2 : G → Value) (f3 : G → Value) (f4 : G → Value) (f5 : G → Value) (f6 : G → Value) (f7 : G → Value) (_sK : Sel L K) (Ag : G → World → Prop)
    (h : C r P N x (Exit.then (fun a w => ∃ g, FOK N D ((d1, f1 g) :: (d2, f2 g) :: (d3, f3 g) :: (d4, f4 g) :: (d5, f5 g) :: (d6, f6 g) :: (d7, f7 g) :: K) a ∧ Ag g w) Q) D L A) (k : ∀ g, C r P N y Q D ((d1, f1 g) :: (d2, f2 g) :: (d3, f3 g) :: (d4, f4 g) :: (d5, f5 g) :: (d6, f6 g) :: (d7, f7 g) :: K) (Ag g)) : C r P N x (Exit.then (y.wpIn (Wf r) 0 P Q) Q) D L A := C.cutq (fun g => (d1, f1 g) :: (d2, f2 g) :: (d3, f3 g) :: (d4, f4 g) :: (d5, f5 g) :: (d6, f6 g) :: (d7, f7 g) :: K) Ag h k
theorem C.cutq_8 {G : Type} {x y : Code} {L : List (Nat × Value)} {d1 d2 d3 d4 d5 d6 d7 d8 : Nat} (f1 : G → Value) (f2 : G → Value) (f3 : G → Value) (f4 : G → Value) (f5 : G → Value) (f6 : G → Value) (f7 : G → Value) (f8 : G → Value) (_sK : Sel L K) (Ag : G → World → Prop)
    (h : C r P N x (Exit.then (fun a w => ∃ g, FOK N D ((d1, f1 g) :: (d2, f2 g) :: (d3, f3 g) :: (d4, f4 g) :: (d5, f5 g) :: (d6, f6 g) :: (d7, f7 g) :: (d8, f8 g) :: K) a ∧ Ag g w) Q) D L A) (k : ∀ g, C r P N y Q D ((d1, f1 g) :: (d2, f2 g) :: (d3, f3 g) :: (d4, f4 g) :: (d5, f5 g) :: (d6, f6 g) :: (d7, f7 g) :: (d8, f8 g) :: K) (Ag g)) : C r P N x (Exit.then (y.wpIn (Wf r) 0 P Q) Q) D L A := C.cutq (fun g => (d1, f1 g) :: (d2, f2 g) :: (d3, f3 g) :: (d4, f4 g) :: (d5, f5 g) :: (d6, f6 g) :: (d7, f7 g) :: (d8, f8 g) :: K) Ag h k
theorem C.cutq_9 {G : Type} {x y : Code} {L : List (Nat × Value)} {d1 d2 d3 d4 d5 d6 d7 d8 d9 : Nat} (f1 : G → Value) (f2 : G → Value) (f3 : G → Value) (f4 : G → Value) (f5 : G → Value) (f6 : G → Value) (f7 : G → Value) (f8 : G → Value) (f9 : G → Value) (_sK : Sel L K) (Ag : G → World → Prop)
    (h : C r P N x (Exit.then (fun a w => ∃ g, FOK N D ((d1, f1 g) :: (d2, f2 g) :: (d3, f3 g) :: (d4, f4 g) :: (d5, f5 g) :: (d6, f6 g) :: (d7, f7 g) :: (d8, f8 g) :: (d9, f9 g) :: K) a ∧ Ag g w) Q) D L A) (k : ∀ g, C r P N y Q D ((d1, f1 g) :: (d2, f2 g) :: (d3, f3 g) :: (d4, f4 g) :: (d5, f5 g) :: (d6, f6 g) :: (d7, f7 g) :: (d8, f8 g) :: (d9, f9 g) :: K) (Ag g)) : C r P N x (Exit.then (y.wpIn (Wf r) 0 P Q) Q) D L A := C.cutq (fun g => (d1, f1 g) :: (d2, f2 g) :: (d3, f3 g) :: (d4, f4 g) :: (d5, f5 g) :: (d6, f6 g) :: (d7, f7 g) :: (d8, f8 g) :: (d9, f9 g) :: K) Ag h k
end
end Go.J
namespace Go.J
open Go Go.RowKit
set_option linter.unusedVariables false
set_option linter.unusedSimpArgs false
section
variable {P : Program} {N : Nat} {D : List Deferred} {L : List (Nat × Value)} {A : World → Prop} {fn : Func} {R : Ending → World → Prop}
/-- the results' values -/
inductive Rs (P : Program) (L : List (Nat × Value)) (A : World → Prop) : List ResultVar → List Value → Prop
  | nil : Rs P L A [] []
  | t {t : Nat} {v : Value} {rs : List ResultVar} {vs : List Value} (i : Nat) (hi : nth L i = some (t, v)) (h : Rs P L A rs vs) : Rs P L A (.tmp t :: rs) (v :: vs)
  | c {t T b o n : Nat} {us : List Value} {rs : List ResultVar} {vs : List Value} (i : Nat) (hi : nth L i = some (t, .pointer (some ⟨b, o, none⟩))) (ht : Ag P T n) (hn : us.length = n) (hc : ∀ w, A w → Cells w b o us) (h : Rs P L A rs vs) : Rs P L A (.cell t T :: rs) (.agg us.toArray :: vs)
  | c1 {t T b o : Nat} {v : Value} {rs : List ResultVar} {vs : List Value} (i : Nat) (hi : nth L i = some (t, .pointer (some ⟨b, o, none⟩))) (ht : Sc P T) (hc : ∀ w, A w → Cells w b o [v]) (h : Rs P L A rs vs) : Rs P L A (.cell t T :: rs) (v :: vs)
def oneV : List Value → Value
  | [v] => v
  | vs => .tuple vs.toArray
def resOf (a : Act) : ResultVar → Sem Value
  | .tmp t => pure (a.tmps.getD t undef)
  | .cell x t => do loadVar t (← asAddr (a.tmps.getD x undef))
theorem Rs.run {rs : List ResultVar} {vs : List Value} (h : Rs P L A rs vs) {a : Act} {w : World} (hf : FOK N D L a) (hA : A w) : (rs.mapM (resOf a)).run P w = .ok vs w := by
  induction h with
  | nil => rfl
  | @t t v rs vs i hi h ih =>
    rw [List.mapM_cons]
    have := hf.at_ _ (nth_mem hi)
    simp only at this
    simp [Sem.run_bind, resOf, this, ih]
  | @c t T b o n us rs vs i hi ht hn hc h ih =>
    rw [List.mapM_cons]
    have := hf.at_ _ (nth_mem hi)
    simp only at this
    simp [Sem.run_bind, resOf, this, ih, asAddr, run_loadVar_agg ht hn (hc w hA)]
  | @c1 t T b o v rs vs i hi ht hc h ih =>
    rw [List.mapM_cons]
    have := hf.at_ _ (nth_mem hi)
    simp only at this
    have h1 : w.cell? ⟨b, o, none⟩ = some v := by simpa using (hc w hA).at_ 0 v rfl
    simp [Sem.run_bind, resOf, this, ih, asAddr, run_loadVar_one ht h1]
theorem Rs.results {rs : List ResultVar} {vs : List Value} (h : Rs P L A rs vs) (hr : fn.results = rs.toArray) {a : Act} {w : World} (hf : FOK N D L a) (hA : A w) : (results fn a.tmps).run P w = .ok (oneV vs) w := by
  have h1 := h.run hf hA
  have e : Go.results fn a.tmps = (do let vs ← fn.results.mapM (resOf a); pure (if h : vs.size = 1 then vs[0] else .tuple vs)) := rfl
  rw [e, hr, List.mapM_toArray]
  rw [show (List.toArray <$> rs.mapM (resOf a)) = (do let l ← rs.mapM (resOf a); pure l.toArray) from rfl]
  rw [Sem.run_bind, Sem.run_bind, h1]
  match vs with
  | [] => rfl
  | [v] => rfl
  | u :: v :: vs => simp [oneV]
theorem X.rets {rs : List ResultVar} {vs : List Value} (hr : fn.results = rs.toArray) (h : Rs P L A rs vs) (k : ∀ w, A w → R (.returned (oneV vs)) w) : X N .ret (bodyPost P fn R) [] L A := fun a w hf hA =>
  bodyPost_ret (h.results hr hf hA) hf.defs (k w hA)
theorem X.retsE {rs : List ResultVar} {vs : List Value} (hr : fn.results = rs.toArray) (h : Rs P L A rs vs) (k : ∀ w, A w → R (.returned (oneV vs)) w) : X N .normal (bodyPost P fn R) [] L A := fun a w hf hA =>
  ⟨hf.defs, _, h.results hr hf hA, k w hA⟩
theorem XL.rets {rs : List ResultVar} {vs : List Value} (hr : fn.results = rs.toArray) (h : Rs P L A rs vs) (k : ∀ w, A w → R (.returned (oneV vs)) w) : XL P N fn R [] L A := fun a w ⟨_, hf⟩ hA => ⟨_, h.results hr hf hA, k w hA⟩
end
/-- no row: it was there already -/
theorem PostN.ofV {X : Type} {V : X → Value} {r : X → Res} {w w' : World} {M Φ : List Res} (x : X) (h : St w no M Φ w') (hφ : (r x).φ w') (hU : ∀ b, ¬ (r x).U b) : PostN (fun _ => True) V r w (.returned (V x)) w' :=
  ⟨x, trivial, rfl, h.eff, hφ, fun b hb => absurd hb (hU b)⟩
/-- a contract in other words -/
theorem PostN.map {X Y : Type} {H : X → Prop} {V : X → Value} {r : X → Res} {H' : Y → Prop} {V' : Y → Value} {r' : Y → Res} {w : World} (g : X → Y) (hg : ∀ x, H x → H' (g x) ∧ V x = V' (g x) ∧ (∀ w, (r x).φ w → (r' (g x)).φ w) ∧ ∀ b, (r' (g x)).U b → (r x).U b) {e : Ending} {w' : World} (h : PostN H V r w e w') : PostN H' V' r' w e w' := by
  obtain ⟨x, h1, h2, h3, h4, h5⟩ := h
  obtain ⟨k1, k2, k3, k4⟩ := hg x h1
  exact ⟨g x, k1, by rw [h2, k2], h3, k3 _ h4, fun b hb => h5 b (k4 b hb)⟩
theorem PostV.toN {X : Type} {H' : X → Prop} {V' : X → Value} {r' : X → Res} {v : Value} {w : World} (x : X) (hx : H' x) (hv : v = V' x) (hφ : ∀ w, (r' x).φ w) (hU : ∀ b, ¬ (r' x).U b) {e : Ending} {w' : World} (h : PostV v w e w') : PostN H' V' r' w e w' :=
  ⟨x, hx, by rw [h.1, hv], h.2, hφ _, fun b hb => absurd hb (hU b)⟩
theorem rowG_nil {e sz : Nat} {X : Type} {enc : X → List Value} (w : World) : (rowG e sz none ([] : List X).length 0 (([] : List X).flatMap enc)).φ w := ⟨by simp, .inl ⟨rfl, rfl⟩⟩
theorem rowG_nilU {e sz n c : Nat} {l : List Value} (b : Nat) : ¬ (rowG e sz none n c l).U b := fun h => by simp [rowG, Value.ownBlock] at h
theorem and_t {b x : Bool} (h : b = true) {t : Nat} : (some (t, Value.bool x) : Option (Nat × Value)) = some (t, Value.bool (b && x)) := by subst h; simp
theorem and_f {b x : Bool} (h : b = false) {t : Nat} : (some (t, Value.bool false) : Option (Nat × Value)) = some (t, Value.bool (b && x)) := by subst h; simp
theorem or_t {b x : Bool} (h : b = true) {t : Nat} : (some (t, Value.bool true) : Option (Nat × Value)) = some (t, Value.bool (b || x)) := by subst h; simp
theorem or_f {b x : Bool} (h : b = false) {t : Nat} : (some (t, Value.bool x) : Option (Nat × Value)) = some (t, Value.bool (b || x)) := by subst h; simp
end Go.J
namespace Go.J
open Go Go.RowKit
set_option linter.unusedVariables false
/-- what a function that is ranged over promises: each value is one that may come next, and it ends where it may -/
def IterN (P : Program) (f : FuncId) (cap : List Value) {V : Type} (ev : V → List Value) (Nx : List V → V → Prop) (Fin : List V → Prop) (mine need : Res) : Prop :=
  ∀ (l : Nat) (Γ : Type) (I : List V → Γ → Res) (g₀ : Γ) (G : Type) (X : G → Res) (w : World),
    (∀ i g w, (I i g).φ w → need.φ w) →
    (∀ i g w v, Nx i v → (I i g).φ w → (∀ b, (I i g).U b → b < w.heap.size) → Yl P l (ev v) w (Went (I i g) (I (i ++ [v])) X w)) →
    (I [] g₀).φ w → mine.φ w → Apart (I [] g₀) mine → (∀ b, (I [] g₀).U b → b < w.heap.size) → (∀ b, mine.U b → b < w.heap.size) →
    Calls P f (.func (.yield l) #[] #[] :: cap).toArray w (fun e w' => (∃ v, e = .returned v) ∧ Eff (fun b => (I [] g₀).U b ∨ mine.U b) w w' ∧ ((∃ i g, Fin i ∧ (I i g).φ w') ∨ ∃ g, (X g).φ w'))
theorem Iter.toN {P : Program} {f : FuncId} {cap : List Value} {V : Type} {ev : V → List Value} {xs : List V} {mine need : Res} (h : Iter P f cap (xs.map ev) mine need) : IterN P f cap ev (fun i v => i = xs.take i.length ∧ xs[i.length]? = some v) (fun i => i = xs) mine need := by
  intro l Γ I g₀ G X w h1 h2 h3 h4 h5 h6 h7
  refine (h l Γ (fun k => I (xs.take k)) g₀ G X w (fun i => h1 _) ?_ (by simpa using h3) h4 (by simpa using h5) (by simpa using h6) h7).mono ?_
  · intro i g w v hv hI hlt
    have hv' := nth_get hv
    rw [List.getElem?_map] at hv'
    obtain ⟨u, hu, rfl⟩ := Option.map_eq_some_iff.1 hv'
    have hil := (List.getElem?_eq_some_iff.1 hu)
    obtain ⟨hlt2, hget⟩ := hil
    have hl : (xs.take i).length = i := by rw [List.length_take]; omega
    have := h2 (xs.take i) g w u ⟨by rw [hl], by rw [hl]; exact hu⟩ hI hlt
    rwa [show xs.take i ++ [u] = xs.take (i + 1) by rw [List.take_succ_eq_append_getElem hlt2, hget]] at this
  · rintro e w' ⟨k1, k2, k3⟩
    refine ⟨k1, by simpa using k2, ?_⟩
    rcases k3 with ⟨g, hg⟩ | h
    · exact .inl ⟨xs, g, rfl, by simpa using hg⟩
    · exact .inr h
section range
variable {P : Program} {N : Nat} {Q : Exit → Act → World → Prop} {D : List Deferred} {L : List (Nat × Value)} {w₀ : World} {F : Nat → Prop} {M M₀ Φ : List Res}
theorem C.rangeN {V : Type} {ev : V → List Value} {Nx : List V → V → Prop} {Fin : List V → Prop} {g : Operand} {ps : List Nat} {assign body : Code} {f : FuncId} {cap : List Value} {mine need : Res} {nd : Nat} {Γ : Type} {Mk : List V → Γ → List Res} (g₀ : Γ)
    (hg : Ev L g (.func (.func f) [].toArray cap.toArray)) (he : En P f) (it : IterN P f cap ev Nx Fin mine need) (pk : Pick M mine (Mk [] g₀)) (hnd : nth Φ nd = some need) (hps : okps N ps L = true) (hxs : ∀ v, ps.length = (ev v).length)
    {G : Type} (Mx : G → List Res) (cx : G → Code)
    (hround : ∀ (l rD : Nat) (rc : LoopState → Option Code → Loop) (w : World) (i : List V) (γ : Γ) (v : V), RC rc → St w₀ F (own l (.loop (rc .ready none)) :: own rD (.deferred (some [])) :: Mk i γ) Φ w → Nx i v →
      Rnd P N l rD rc assign body (params ps (ev v) L) Φ (RoundR w₀ F Φ l rD rc (Mk i γ) (Mk (i ++ [v])) Mx cx) (Mk i γ) w)
    (hdone : ∀ rD i γ, w₀.heap.size ≤ rD → Fin i → X N .normal Q (mk rD :: D) L (St w₀ F (own rD (.deferred (some [])) :: Mk i γ) Φ))
    (hstop : ∀ rD g, w₀.heap.size ≤ rD → C none P N (cx g) Q (mk rD :: D) L (St w₀ F (own rD (.deferred (some [])) :: Mx g) Φ)) :
    C none P N (.rangeFunc g ps.toArray assign body) Q D L (St w₀ F M Φ) := by
  intro a w hf hA
  refine wpIn_rangeFunc fun fn _ => ?_
  let rD := w.heap.size
  let l := w.heap.size + 1
  let rc : LoopState → Option Code → Loop := lrec fn a.tmps ps.toArray assign body rD
  let w₁ := (w.alloc (.deferred (some []))).alloc (.loop (rc .ready none))
  have hrun : (invoke (.fn (.func f) cap.toArray) #[.func (.yield l) #[] #[]]).run P w₁ = .ok (.enter f (.func (.yield l) #[] #[] :: cap).toArray) w₁ := by
    simp only [invoke]
    have := he (.func (.yield l) #[] #[] :: cap).toArray w₁
    simpa using this
  have hld : w₀.heap.size ≤ rD := hA.le
  -- the state as the loop begins
  have hA0 := hA.permM pk.perm
  obtain ⟨hap, _⟩ := List.pairwise_cons.1 hA0.apart
  have hmine := hA0.own_ mine (List.mem_cons_self ..)
  have e1 : Eff no w (w.alloc (.deferred (some []))) := Eff.alloc w _
  have e2 : Eff no (w.alloc (.deferred (some []))) w₁ := Eff.alloc _ _
  have s1 : St w₀ F (own rD (.deferred (some [])) :: Mk [] g₀) Φ (w.alloc (.deferred (some []))) :=
    hA0.dropM.extM e1 (heap_alloc_new w _) (fun b hb => by simp only [own] at hb; subst hb; simp [rD])
  have s2 : St w₀ F (own l (.loop (rc .ready none)) :: own rD (.deferred (some [])) :: Mk [] g₀) Φ w₁ := by
    refine s1.extM e2 ?_ (fun b hb => ?_)
    · have := heap_alloc_new (w.alloc (.deferred (some []))) (.loop (rc .ready none))
      simpa [own, l, w₁] using this
    · simp only [own] at hb; subst hb; simp [l, w₁]
  let I : List V → Γ → Res := fun i γ => StR w₀ F (own l (.loop (rc .ready none)) :: own rD (.deferred (some [])) :: Mk i γ) Φ
  let X' : G → Res := fun g => StR w₀ F (own l (.loop (rc .done (some (cx g)))) :: own rD (.deferred (some [])) :: Mx g) Φ
  have hcall := it l Γ I g₀ G X' w₁ ?need ?yields s2 ?mine ?apart (StR.lt s2) ?lt
  case need => exact fun i γ w' h => (St.see (r := need) h nd hnd)
  case mine => exact mine.eff (mine.eff hmine.1 e1 (fun b hb => ⟨(hmine.2 b hb).1, fun h => h⟩)) e2 (fun b hb => ⟨Nat.lt_of_lt_of_le (hmine.2 b hb).1 e1.size, fun h => h⟩)
  case lt => exact fun b hb => Nat.lt_of_lt_of_le (hmine.2 b hb).1 (Nat.le_trans e1.size e2.size)
  case apart =>
    rintro b hb hm
    have hlt := (hmine.2 b hm).1
    rcases hb with hb | ⟨r, hr, hb⟩ | ⟨i, hi, hb⟩
    · rcases (hmine.2 b hm).2 with h | h
      · exact hb.2 h
      · exact absurd h (Nat.not_le.2 hb.1)
    · rcases List.mem_cons.1 hr with rfl | hr
      · simp only [own] at hb; simp only [hb, l] at hlt; omega
      · rcases List.mem_cons.1 hr with rfl | hr
        · simp only [own] at hb; simp only [hb, rD] at hlt; omega
        · exact hap r hr b hm hb
    · exact (hA0.imm i hi).2.2 mine (List.mem_cons_self ..) b hm hb
  case yields =>
    intro i γ wr v hv hI _
    have hst : St w₀ F (own l (.loop (rc .ready none)) :: own rD (.deferred (some [])) :: Mk i γ) Φ wr := hI
    have hl : wr.heap[l]? = some (.loop (rc .ready none)) := (hst.own_ _ (List.mem_cons_self ..)).1
    have hlen := hxs v
    refine ⟨fn, _, assign, body, run_yield hl (by simp [rc, lrec, hlen]), ?_⟩
    refine RoundIn.mono (roundIn_of_wpIn (F := Wf none) (l := l) (R := RoundR w₀ F Φ l rD rc (Mk i γ) (Mk (i ++ [v])) Mx cx wr) trivial ?_) (fun e w' h => h)
    have hr := hround l rD rc wr i γ v ⟨fun _ _ => rfl, fun _ _ => rfl, fun _ _ _ _ => rfl⟩ hst hv
    refine hr _ wr ?_ hst.rebase
    have := FOK.params (D := D) (D' := []) (tmps := a.tmps) hlen hps ⟨hf.size, rfl, hf.at_⟩
    simpa [rc, lrec] using this
  refine ⟨l, [mk rD], w₁, { target := .fn (.func f) cap.toArray, args := #[.func (.yield l) #[] #[]] }, w₁, f, _, w₁, run_enterLoop_outer fn a.tmps ps.toArray assign body, ?_, fun _ _ => trivial, hrun, fun h => by simp [Fence.wide] at h, callsWf (hcall.mono ?_)⟩
  · have h1 := hg N D a hf
    have h2 : a.eval (.const (.func (.yield l) #[] #[])) = .func (.yield l) #[] #[] := rfl
    simp [resolve, h1, h2, Deferred.ofValue]
  · rintro e w' ⟨⟨v, rfl⟩, hE, ⟨i, γ, hfin, h⟩ | ⟨x, h⟩⟩
    · have hst : St w₀ F (own l (.loop (rc .ready none)) :: own rD (.deferred (some [])) :: Mk i γ) Φ w' := h
      have hl := (hst.own_ _ (List.mem_cons_self ..)).1
      refine ⟨none, _, run_endLoop (r := rc .ready none) hl (by simp [rc, lrec]), ?_⟩
      have hs3 : St w₀ F (own l (.loop { rc .ready none with state := .exhausted }) :: own rD (.deferred (some [])) :: Mk i γ) Φ (w'.putObj l (.loop { rc .ready none with state := .exhausted })) :=
        hst.upd .here Eff.putObj (World.putObj_heap_same (Array.getElem?_eq_some_iff.1 hl).1) (fun b hb => by simp only [own] at hb; subst hb; exact ⟨.inl rfl, by simpa using (Array.getElem?_eq_some_iff.1 hl).1⟩)
      exact hdone rD i γ hld hfin _ _ ⟨hf.size, by show mk rD :: a.defers = _; rw [hf.defs], hf.at_⟩ hs3.dropM
    · have hst : St w₀ F (own l (.loop (rc .done (some (cx x)))) :: own rD (.deferred (some [])) :: Mx x) Φ w' := h
      have hl := (hst.own_ _ (List.mem_cons_self ..)).1
      refine ⟨some (cx x), _, run_endLoop (r := rc .done (some (cx x))) hl (by simp [rc, lrec]), ?_⟩
      have hs3 : St w₀ F (own l (.loop { rc .done (some (cx x)) with state := .exhausted }) :: own rD (.deferred (some [])) :: Mx x) Φ (w'.putObj l (.loop { rc .done (some (cx x)) with state := .exhausted })) :=
        hst.upd .here Eff.putObj (World.putObj_heap_same (Array.getElem?_eq_some_iff.1 hl).1) (fun b hb => by simp only [own] at hb; subst hb; exact ⟨.inl rfl, by simpa using (Array.getElem?_eq_some_iff.1 hl).1⟩)
      exact hstop rD x hld _ _ ⟨hf.size, by show mk rD :: a.defers = _; rw [hf.defs], hf.at_⟩ hs3.dropM

/-! a round's walk -/
end range
end Go.J
namespace Go.J
open Go Go.RowKit
set_option linter.unusedVariables false
set_option linter.unusedSimpArgs false
/-- keys that are compared -/
structure KeyOps (P : Program) (kt : TypeId) {K : Type} [DecidableEq K] (ek : K → Value) : Prop where
  check : ∀ em k w, (Instr.checkKey em 10000 kt (ek k)).run P w = .ok () w
  find : ∀ k (l : List MapEntry) (ks : List K) w, l.map (·.key) = ks.map ek → (Instr.findKey kt (ek k) l).run P w = .ok (match ks.findIdx? (fun x => decide (x = k)) with | some i => (l[i]?).map (fun e => (i, e.val)) | none => none) w
  same : ∀ k, Instr.sameBits 10000 (ek k) (ek k) = true
theorem findNow_int {q q' : IntKind} (k : Int) : ∀ (l : List MapEntry) (ks : List Int) (i : Nat), l.map (·.key) = ks.map (fun x => Value.int q x) →
    Instr.findNow (.int q') (.int q k) l i = some (match ks.findIdx? (fun x => decide (x = k)) with | some j => (l[j]?).map (fun e => (i + j, e.val)) | none => none)
  | [], [], i, _ => rfl
  | [], _ :: _, _, h => by simp at h
  | _ :: _, [], _, h => by simp at h
  | e :: l, x :: ks, i, h => by
    simp only [List.map_cons, List.cons.injEq] at h
    have h1 : Instr.sameNow (.int q') (.int q k) e.key = some (k == x) := by rw [h.1]; simp [Instr.sameNow]
    simp only [Instr.findNow, h1, List.findIdx?_cons]
    by_cases hx : x = k
    · subst hx; simp
    · have : (k == x) = false := by simpa using fun e => hx e.symm
      simp only [this, decide_eq_true_eq, hx]
      rw [findNow_int k l ks (i + 1) h.2]
      cases ks.findIdx? (fun x => decide (x = k)) with
      | none => simp
      | some j => simp [Nat.add_assoc, Nat.add_comm 1 j]
theorem KeyOps.int {P : Program} {kt : TypeId} {q q' : IntKind} (h : P.underlying kt = some (.int q')) : KeyOps P kt (fun x : Int => Value.int q x) where
  check := by
    intro em k w
    rw [show (10000 : Nat) = 9999 + 1 from rfl, Instr.checkKey]
    simp [run_underlying h]
  find := by
    intro k l ks w hl
    have := findNow_int (q' := q') k l ks 0 hl
    simp [Instr.findKey, run_underlying h, this]
  same := by intro k; rw [show (10000 : Nat) = 9999 + 1 from rfl]; simp only [Instr.sameBits]; simp
section
variable {K X : Type}
/-- a map's entries: keys and values, in the order of their birth -/
def mapR (b : Nat) (ek : K → Value) (ev : X → Value) (es : List (K × X)) : Res where
  U := fun x => x = b
  φ := fun w => ∃ arr clock, w.heap[b]? = some (.map arr clock) ∧ arr.toList.map (fun e => (e.key, e.val)) = es.map (fun p => (ek p.1, ev p.2)) ∧ arr.toList.Pairwise (fun x y => x.born < y.born) ∧ ∀ x ∈ arr.toList, x.born < clock
  st := by
    intro w w' _ _ _ _ hb ⟨arr, clock, h1, h2⟩
    exact ⟨arr, clock, by rw [hb b rfl]; exact h1, h2⟩
def lk [DecidableEq K] (k : K) (es : List (K × X)) : Option X := (es.find? (fun p => decide (p.1 = k))).map (·.2)
def putM [DecidableEq K] (k : K) (x : X) (es : List (K × X)) : List (K × X) := match es.findIdx? (fun p => decide (p.1 = k)) with | some i => es.set i (k, x) | none => es ++ [(k, x)]
variable {P : Program} {t kt et : TypeId} {ek : K → Value} {ev : X → Value} {es : List (K × X)} {k : K} {b : Nat} {w : World}
theorem keys_of {arr : Array MapEntry} (h : arr.toList.map (fun e => (e.key, e.val)) = es.map (fun p => (ek p.1, ev p.2))) : arr.toList.map (·.key) = (es.map (·.1)).map ek := by
  have := congrArg (List.map Prod.fst) h
  simpa [List.map_map, Function.comp_def] using this
theorem val_of {arr : Array MapEntry} (h : arr.toList.map (fun e => (e.key, e.val)) = es.map (fun p => (ek p.1, ev p.2))) {i : Nat} {p : K × X} (hp : es[i]? = some p) : ∃ e, arr.toList[i]? = some e ∧ e.key = ek p.1 ∧ e.val = ev p.2 := by
  have h1 : (arr.toList.map (fun e => (e.key, e.val)))[i]? = some (ek p.1, ev p.2) := by rw [h]; simp [hp]
  rw [List.getElem?_map] at h1
  obtain ⟨e, he, h2⟩ := Option.map_eq_some_iff.1 h1
  simp only [Prod.mk.injEq] at h2
  exact ⟨e, he, h2.1, h2.2⟩
variable [DecidableEq K]
theorem findIdx_keys : ((es.map (·.1)).findIdx? (fun x => decide (x = k))) = es.findIdx? (fun p => decide (p.1 = k)) := by
  rw [List.findIdx?_map]; rfl
theorem find_of_idx {es : List (K × X)} {i : Nat} (h : es.findIdx? (fun p => decide (p.1 = k)) = some i) : ∃ x, es[i]? = some (k, x) ∧ lk k es = some x := by
  rw [List.findIdx?_eq_some_iff_getElem] at h
  obtain ⟨hlt, h1, h2⟩ := h
  have hk : es[i].1 = k := by simpa using h1
  refine ⟨es[i].2, by rw [List.getElem?_eq_getElem hlt, ← hk], ?_⟩
  unfold lk
  have : es.find? (fun p => decide (p.1 = k)) = some es[i] := by
    rw [List.find?_eq_some_iff_getElem]
    exact ⟨by simpa using hk, i, hlt, rfl, fun j hj => by simpa using h2 j hj⟩
  rw [this]; rfl
theorem find_none {es : List (K × X)} (h : es.findIdx? (fun p => decide (p.1 = k)) = none) : lk k es = none := by
  unfold lk
  rw [List.findIdx?_eq_none_iff] at h
  rw [List.find?_eq_none.2 (fun x hx => by simpa using h x hx)]; rfl
theorem find_run (o : KeyOps P kt ek) {arr : Array MapEntry} (h : arr.toList.map (fun e => (e.key, e.val)) = es.map (fun p => (ek p.1, ev p.2))) :
    (Instr.findKey kt (ek k) arr.toList).run P w = .ok (match es.findIdx? (fun p => decide (p.1 = k)) with | some i => (lk k es).map (fun x => (i, ev x)) | none => none) w := by
  rw [o.find k arr.toList (es.map (·.1)) w (keys_of h), findIdx_keys]
  cases hi : es.findIdx? (fun p => decide (p.1 = k)) with
  | none => rfl
  | some i =>
    obtain ⟨x, hx, hl⟩ := find_of_idx hi
    obtain ⟨e, he, _, hv⟩ := val_of h hx
    simp [he, hl, hv]
theorem lookup_run (o : KeyOps P kt ek) (ht : P.underlying t = some (.map kt et)) {z : X} (hz : ∀ w, (zeroValue et).run P w = .ok (ev z) w) (hm : (mapR b ek ev es).φ w) (ok : Bool) :
    (Instr.lookup t (.map (some b)) (ek k) ok).run P w = .ok (if ok then .tuple [ev ((lk k es).getD z), .bool (lk k es).isSome].toArray else ev ((lk k es).getD z)) w := by
  obtain ⟨arr, clock, h1, h2, h3, h4⟩ := hm
  have hf := find_run (k := k) (w := w) o h2
  have hc := o.check arr.isEmpty k w
  have hg : (getObj b).run P w = .ok (.map arr clock) w := by simp [getObj, Sem.run, h1]
  cases hi : es.findIdx? (fun p => decide (p.1 = k)) with
  | none =>
    rw [hi] at hf
    have := find_none hi
    cases ok <;> simp [Instr.lookup, run_underlying ht, hg, hc, hf, this, hz]
  | some i =>
    rw [hi] at hf
    obtain ⟨x, _, hx⟩ := find_of_idx hi
    rw [hx] at hf
    cases ok <;> simp [Instr.lookup, run_underlying ht, hg, hc, hf, hx]
theorem update_run (o : KeyOps P kt ek) (ht : P.underlying t = some (.map kt et)) {x : X} (hm : (mapR b ek ev es).φ w) :
    ∃ w', (Instr.mapUpdate t (.map (some b)) (ek k) (ev x)).run P w = .ok () w' ∧ (mapR b ek ev (putM k x es)).φ w' ∧ Eff (fun y => y = b) w w' ∧ w'.heap.size = w.heap.size := by
  obtain ⟨arr, clock, h1, h2, h3, h4⟩ := hm
  have hlt := (Array.getElem?_eq_some_iff.1 h1).1
  have hset : ∀ ob : Obj, (setObj b ob).run P w = .ok () (w.putObj b ob) := fun ob => by
    simp only [setObj, Sem.run, h1]; rfl
  have hf := find_run (k := k) (w := w) o h2
  have hc := o.check false k w
  have hg : (getObj b).run P w = .ok (.map arr clock) w := by simp [getObj, Sem.run, h1]
  cases hi : es.findIdx? (fun p => decide (p.1 = k)) with
  | none =>
    refine ⟨w.putObj b (.map (arr.push { key := ek k, val := ev x, born := clock }) (clock + 1)), ?_, ⟨_, _, World.putObj_heap_same hlt, ?_, ?_, ?_⟩, Eff.putObj, by simp⟩
    · rw [hi] at hf
      simp [Instr.mapUpdate, run_underlying ht, hg, hc, hf, hset]
    · simp [putM, hi, h2]
    · simp only [Array.toList_push]
      rw [List.pairwise_append]
      exact ⟨h3, by simp, fun a ha c hc => by simp at hc; subst hc; exact h4 a ha⟩
    · intro y hy
      simp only [Array.toList_push, List.mem_append, List.mem_singleton] at hy
      rcases hy with hy | rfl
      · exact Nat.lt_succ_of_lt (h4 y hy)
      · exact Nat.lt_succ_self _
  | some i =>
    obtain ⟨x0, hx0, hlk⟩ := find_of_idx hi
    obtain ⟨e, he, hek, hev⟩ := val_of h2 hx0
    have hea : arr[i]? = some e := by simpa using he
    refine ⟨w.putObj b (.map (arr.modify i fun e => { e with key := ek k, val := ev x }) clock), ?_, ⟨_, _, World.putObj_heap_same hlt, ?_, ?_, ?_⟩, Eff.putObj, by simp⟩
    · have hks : (Instr.keyThatStays (ek k) (ek k)).run P w = .ok (ek k) w := by simp [Instr.keyThatStays, o.same k]
      rw [hi, hlk] at hf
      simp [Instr.mapUpdate, run_underlying ht, hg, hc, hf, hea, hek, hks, hset]
    · simp only [putM, hi, Array.toList_modify]
      apply List.ext_getElem?
      intro j
      have hj := congrArg (·[j]?) h2
      simp only [List.getElem?_map] at hj
      rw [List.getElem?_map, List.getElem?_map, List.getElem?_modify, List.getElem?_set]
      by_cases hij : i = j
      · subst hij
        have hl : i < es.length := (List.getElem?_eq_some_iff.1 hx0).1
        simp [he, hl]
      · simp only [hij, if_false]; simpa using hj
    · rw [Array.toList_modify, List.pairwise_iff_getElem]
      rw [List.pairwise_iff_getElem] at h3
      intro p q hp hq hpq
      simp only [List.length_modify] at hp hq
      have := h3 p q hp hq hpq
      simp only [List.getElem_modify]
      split <;> split <;> exact this
    · intro y hy
      rw [Array.toList_modify] at hy
      obtain ⟨j, hj, rfl⟩ := List.getElem_of_mem hy
      simp only [List.length_modify] at hj
      have := h4 _ (List.getElem_mem hj)
      simp only [List.getElem_modify]
      split <;> exact this
variable {L : List (Nat × Value)} {ty : TypeId} {x y v : Operand} {w₀ : World} {F : Nat → Prop} {M M' Φ : List Res} {xv z : X}
theorem Q.lookup {A : World → Prop} (o : KeyOps P kt ek) (ht : P.underlying t = some (.map kt et)) (hz : ∀ w, (zeroValue et).run P w = .ok (ev z) w) (hx : Ev L x (.map (some b))) (hy : Ev L y (ek k)) (hm : ∀ w, A w → (mapR b ek ev es).φ w) :
    Qt P A (.lookup t x y false) ty L (ev ((lk k es).getD z)) := by
  intro N D f w o' ho _ hf hA
  have := lookup_run (k := k) o ht hz (hm w hA) false
  simp [execOp, ho, hx N D f hf, hy N D f hf, this]
theorem Q.lookupOk {A : World → Prop} (o : KeyOps P kt ek) (ht : P.underlying t = some (.map kt et)) (hz : ∀ w, (zeroValue et).run P w = .ok (ev z) w) (hx : Ev L x (.map (some b))) (hy : Ev L y (ek k)) (hm : ∀ w, A w → (mapR b ek ev es).φ w) :
    Qt P A (.lookup t x y true) ty L (.tuple [ev ((lk k es).getD z), .bool (lk k es).isSome].toArray) := by
  intro N D f w o' ho _ hf hA
  have := lookup_run (k := k) o ht hz (hm w hA) true
  simp [execOp, ho, hx N D f hf, hy N D f hf, this]
theorem S.mapUpdate (o : KeyOps P kt ek) (ht : P.underlying t = some (.map kt et)) (hx : Ev L x (.map (some b))) (hy : Ev L y (ek k)) (hv : Ev L v (ev xv)) (u : Upd M (mapR b ek ev es) M' (mapR b ek ev (putM k xv es))) :
    Sk P (St w₀ F M Φ) (.mapUpdate t x y v) ty L (St w₀ F M' Φ) := by
  intro N D f w o' ho _ hf hA
  obtain ⟨M0, hp, _⟩ := u.perm
  have hm := (hA.own_ _ (hp.mem_iff.2 (List.mem_cons_self ..)))
  obtain ⟨w', h1, h2, h3, h4⟩ := update_run (k := k) (x := xv) o ht hm.1
  refine ⟨w', ?_, hA.upd u h3 h2 ?_⟩
  · simp [execOp, ho, hx N D f hf, hy N D f hf, hv N D f hf, h1]
  · intro c hc
    exact ⟨.inl hc, by rw [h4]; exact (hm.2 c hc).1⟩
end
section
variable {r : Option Nat} {P : Program} {N : Nat} {ops : Array Oper} {Q : Exit → Act → World → Prop} {rest : List Oper} {D : List Deferred} {L : List (Nat × Value)} {o : Oper} {w₀ : World} {F : Nat → Prop} {M M' Φ : List Res} {d : Nat}
theorem J.mkMap {K X : Type} (ek : K → Value) (ev : X → Value) {t : TypeId} (hg : o.guard = none) (hd : o.dst = some d) (hn : okd d N L = true) (ho : o.op = .makeMap t none)
    (k : ∀ b, w₀.heap.size ≤ b → J r P N ops Q rest D ((d, .map (some b)) :: L) (St w₀ F (mapR b ek ev [] :: M) Φ)) : J r P N ops Q (o :: rest) D L (St w₀ F M Φ) := by
  refine J.e (X := { b : Nat // w₀.heap.size ≤ b }) (V := fun b => .map (some b.1)) (B := fun b => St w₀ F (mapR b.1 ek ev [] :: M) Φ) hg hd hn (by rw [ho]; rfl) ?_ (fun b => k b.1 b.2)
  intro N D a w o' ho' _ hf hA
  refine ⟨⟨w.heap.size, hA.le⟩, w.alloc (.map #[] 0), ?_, hA.extM (Eff.alloc w _) ⟨#[], 0, heap_alloc_new w _, by simp, by simp, by simp⟩ ?_⟩
  · simp [execOp, ho', ho, Instr.makeMap]
  · intro b hb; simp only [mapR] at hb; subst hb; simp
/-- a map that is ranged over: its entries stay as they are -/
structure Ents (arr : Array MapEntry) (clock : Nat) : Prop where
  up : arr.toList.Pairwise (fun x y => x.born < y.born)
  lt : ∀ x ∈ arr.toList, x.born < clock
abbrev itR (b r : Nat) (clock : Nat) (seen : Array Nat) : Res := own r (.mapIter (some b) clock seen clock)
theorem J.rangeM {t kt et : TypeId} {x : Operand} {b : Nat} {arr : Array MapEntry} {clock : Nat} (hg : o.guard = none) (hd : o.dst = some d) (hn : okd d N L = true) (ho : o.op = .range t x) (ht : P.underlying t = some (.map kt et)) (hx : Ev L x (.map (some b)))
    (hm : ∀ w, St w₀ F M Φ w → w.heap[b]? = some (.map arr clock))
    (k : ∀ q, J r P N ops Q rest D ((d, .pointer (some ⟨q, 0, none⟩)) :: L) (St w₀ F (itR b q clock #[] :: M) Φ)) : J r P N ops Q (o :: rest) D L (St w₀ F M Φ) := by
  refine J.e (X := Nat) (V := fun q => .pointer (some ⟨q, 0, none⟩)) (B := fun q => St w₀ F (itR b q clock #[] :: M) Φ) hg hd hn (by rw [ho]; rfl) ?_ k
  intro N D a w o' ho' _ hf hA
  have hgo : (getObj b).run P w = .ok (.map arr clock) w := by simp [getObj, Sem.run, hm w hA]
  refine ⟨w.heap.size, w.alloc (.mapIter (some b) clock #[] clock), ?_, hA.extM (Eff.alloc w _) (heap_alloc_new w _) ?_⟩
  · simp [execOp, ho', ho, hx N D a hf, Instr.range, run_underlying ht, hgo]
  · intro c hc; simp only [own] at hc; subst hc; simp
theorem J.nextM {x : Operand} {b q : Nat} {arr : Array MapEntry} {clock : Nat} {seen : Array Nat} {M' : MapEntry → List Res} (hg : o.guard = none) (hd : o.dst = some d) (hn : okd d N L = true) (ho : o.op = .next x false) (hx : Ev L x (.pointer (some ⟨q, 0, none⟩)))
    (hE : Ents arr clock) (hm : ∀ w, St w₀ F M Φ w → w.heap[b]? = some (.map arr clock)) (u : ∀ e, Upd M (itR b q clock seen) (M' e) (itR b q clock (seen.push e.born)))
    (k0 : (leftOf arr seen).size = 0 → J r P N ops Q rest D ((d, .tuple [.bool false].toArray) :: L) (St w₀ F M Φ))
    (k1 : ∀ e, e ∈ (leftOf arr seen).toList → J r P N ops Q rest D ((d, .tuple [.bool true, e.key, e.val].toArray) :: L) (St w₀ F (M' e) Φ)) : J r P N ops Q (o :: rest) D L (St w₀ F M Φ) := by
  refine J.e (X := { e : Option MapEntry // match e with | none => (leftOf arr seen).size = 0 | some e => e ∈ (leftOf arr seen).toList }) (V := fun e => match e.1 with | none => .tuple [.bool false].toArray | some e => .tuple [.bool true, e.key, e.val].toArray)
    (B := fun e => match e.1 with | none => St w₀ F M Φ | some e => St w₀ F (M' e) Φ) hg hd hn (by rw [ho]; rfl) ?_ ?_
  · intro N D a w o' ho' _ hf hA
    obtain ⟨M0, hp, _⟩ := (u default).perm
    have hit := hA.own_ _ (hp.mem_iff.2 (List.mem_cons_self ..))
    have hr : w.heap[q]? = some (.mapIter (some b) clock seen clock) := hit.1
    have hlt := (Array.getElem?_eq_some_iff.1 hr).1
    rcases run_next_at (P := P) w o'.type q b clock clock seen arr clock hr (hm w hA) hE.lt (Nat.le_refl _) with ⟨h0, hrun⟩ | ⟨e, he, w1, hw1, hrun⟩
    · refine ⟨⟨none, h0⟩, w, ?_, hA⟩
      simp [execOp, ho', ho, hx N D a hf, hrun]
    · have hq1 : w1.heap = w.heap := by rcases hw1 with rfl | rfl <;> rfl
      have e1 : Eff (fun y => y = q) w w1 := by
        rcases hw1 with rfl | rfl
        · exact Eff.refl _ _
        · exact Eff.drew _
      have e2 : Eff (fun y => y = q) w1 (w1.putObj q (.mapIter (some b) clock (seen.push e.born) clock)) := Eff.putObj
      have e3 : ChangeMaps.setBlock w1 q (.mapIter (some b) clock (seen.push e.born) clock) = w1.putObj q (.mapIter (some b) clock (seen.push e.born) clock) := rfl
      refine ⟨⟨some e, he⟩, _, ?_, hA.upd (u e) (e1.trans e2) (by rw [← e3]; exact World.putObj_heap_same (by rw [hq1]; exact hlt)) ?_⟩
      · simp [execOp, ho', ho, hx N D a hf, hrun, e3]
      · intro c hc
        simp only [own] at hc; subst hc
        exact ⟨.inl rfl, by simpa [hq1] using hlt⟩
  · rintro ⟨_ | e, he⟩
    · exact k0 he
    · exact k1 e he
theorem Q.entryM {A : World → Prop} {ty : TypeId} {x : Operand} {b q : Nat} {arr : Array MapEntry} {clock : Nat} {seen : Array Nat} {e : MapEntry} (hx : Ev L x (.pointer (some ⟨q, 0, none⟩))) (hE : Ents arr clock) (he : e ∈ arr.toList)
    (hm : ∀ w, A w → w.heap[b]? = some (.map arr clock)) (hi : ∀ w, A w → w.heap[q]? = some (.mapIter (some b) clock (seen.push e.born) clock)) : Qt P A (.entry x) ty L (.tuple [e.key, e.val].toArray) := by
  intro N D f w o' ho _ hf hA
  have hn : (arr.toList.map (·.born)).Nodup := by
    rw [List.Nodup, List.pairwise_map]
    exact hE.up.imp (fun h => Nat.ne_of_lt h)
  have := run_entry_at (P := P) w q b clock seen arr clock e (hi w hA) (hm w hA) he hn
  simp [execOp, ho, hx N D f hf, this]
end
section
variable {K X : Type} {P : Program} {t kt et : TypeId} {ek : K → Value} {ev : X → Value} {es : List (K × X)} {b : Nat} {L : List (Nat × Value)} {ty : TypeId} {x : Operand}
theorem Q.lenM {A : World → Prop} (ht : P.underlying t = some (.map kt et)) (hx : Ev L x (.map (some b))) (hm : ∀ w, A w → (mapR b ek ev es).φ w) :
    Qt P A (.call { callee := .builtin .len, args := [x].toArray, argTypes := #[t] }) ty L (.int .i64 es.length) := by
  intro N D f w o' ho _ hf hA
  obtain ⟨arr, clock, h1, h2, _⟩ := hm w hA
  have hl : arr.size = es.length := by have := congrArg List.length h2; simpa using this
  have hg : (getObj b).run P w = .ok (.map arr clock) w := by simp [getObj, Sem.run, h1]
  simp [execOp, ho, resolve, invoke, Go.builtin, Builtin.len_, hx N D f hf, run_underlying ht, hg, goInt, hl]
end
end Go.J
namespace Go.J
open Go Go.RowKit Go.ChangeShapes
set_option linter.unusedVariables false
section
variable {H : Type} {enc : TypeId × Value → H} {P : Program}
theorem trodAll_stays (hl : laidOutB P = true) {W W' : World} {sp : Nat → Bool} : ∀ {ts : List TypeId} {vs : List Value} {ds : List (DataW H)} {ps : List MemPlace}, (∀ t ∈ ts, P.readableRec t = true ∧ t < P.types.size) →
    DataW.TrodAll enc P W 0 (fun _ => true) true ts vs ds ps → (∀ p ∈ ps, W.sameAt W' p) → (∀ p ∈ ps, sp p.block = true) → DataW.TrodAll enc P W' 0 sp true ts vs ds ps
  | [], [], [], ps, _, h, _, _ => h
  | [], [], _ :: _, _, _, h, _, _ => h.elim
  | [], _ :: _, _, _, _, h, _, _ => by cases h
  | _ :: _, [], _, _, _, h, _, _ => by cases h
  | _ :: _, _ :: _, [], _, _, h, _, _ => by cases h
  | t :: ts, v :: vs, d :: ds, ps, hts, ⟨p, q, h1, h2, e⟩, hs, hsp => by
    subst e
    obtain ⟨k1, k2⟩ := hts t (List.mem_cons_self ..)
    exact ⟨p, q, WideElems.Trod_stays hl k1 k2 h1 (fun x hx => hs x (List.mem_append_left _ hx)) (fun x hx => hsp x (List.mem_append_left _ hx)),
      trodAll_stays hl (fun t ht => hts t (List.mem_cons_of_mem _ ht)) h2 (fun x hx => hs x (List.mem_append_right _ hx)) (fun x hx => hsp x (List.mem_append_right _ hx)), rfl⟩
theorem readable_all {ts : List TypeId} (h : (ts.all fun t => P.readableRec t && decide (t < P.types.size)) = true) : ∀ t ∈ ts, P.readableRec t = true ∧ t < P.types.size := by
  intro t ht
  have := List.all_eq_true.1 h t ht
  simpa using this
theorem Eff.kept {W W' : World} (h : Eff no W W') (may : MemPlace → Prop) : W.keptBut W' may := by
  refine ⟨h.os, h.output, fun i hi => ?_⟩
  rw [h.block i hi (fun h => h)]
  cases W.heap[i]? with
  | none => rfl
  | some o =>
    cases o with
    | cells c t fr => exact ⟨rfl, rfl, rfl, fun _ _ => rfl⟩
    | map es clock => exact .inr ⟨rfl, rfl⟩
    | _ => rfl
theorem Eff.same {W W' : World} (h : Eff no W W') {p : MemPlace} (hp : p.block < W.heap.size) : W.sameAt W' p := by
  cases p with
  | cell b off => simp only [World.sameAt, World.cell?]; rw [h.block b hp (fun h => h)]
  | map b => exact h.block b hp (fun h => h)
theorem Eff.frozen {W W' : World} (h : Eff no W W') {b off : Nat} (hb : b < W.heap.size) : W'.frozen? ⟨b, off, none⟩ = W.frozen? ⟨b, off, none⟩ := by
  simp only [World.frozen?]; rw [h.block b hb (fun h => h)]
/-- what a law says, once the call returns true and leaves what was there -/
theorem lawPost {f : Func} {s : ChangeSpec} {fresh handsOn again : Bool} {W W' : World} {args : Array Value} {ds gs : List (DataW H)} {before : List MemPlace} {tb : TypeId} (hl : laidOutB P = true) (hts : ∀ t ∈ f.params.toList, P.readableRec t = true ∧ t < P.types.size) (hv : s.vars = [])
    (hfn : gs = [] → s.fn H (ds ++ gs) = { results := [.lit (.bool true)], args := ds }) (hrt : f.resultTypes = #[tb]) (htb : P.underlying tb = some .bool) (hW : DataW.Whole enc P f.params.toList s.vars false W args.toList ds gs before) (hE : Eff no W W') :
    s.post enc P f false fresh handsOn again W args (.bool true) W' := by
  have hlt : ∀ p ∈ before, p.block < W.heap.size := fun p hp => hW.lt p hp
  have hW0 := hW
  obtain ⟨p, q, hA, hV, hps, hz, hn⟩ := hW
  rw [hv] at hV
  obtain ⟨rfl, rfl⟩ := trodVars_none hV
  have hfn := hfn rfl
  rw [List.append_nil] at hps
  subst hps
  have hres : ∀ (b : Nat) (sp : Nat → Bool) (hd : Bool), DataW.TrodAll enc P W' b sp hd f.resultTypes.toList ((Value.bool true).resultList f.resultTypes.size) [.lit (.bool true)] [] := fun b sp hd => by
    rw [hrt]
    exact trodAll_cons_mk (shut_bool htb _) trodAll_mk0
  have hargs : ∀ sp : Nat → Bool, (∀ x ∈ before, sp x.block = true) → DataW.TrodAll enc P W' 0 sp true f.params.toList args.toList ds before := fun sp hsp => trodAll_stays hl hts hA (fun x hx => hE.same (hlt x hx)) hsp
  have hold : ∀ x ∈ before, (fun b => decide (b < W.heap.size)) x.block = true := fun x hx => by simpa using hlt x hx
  refine ⟨ds, [], before, [], before, [], hW0, ?_, ?_, ?_, hE.kept _, fun _ => ⟨?_, ?_⟩⟩
  · rw [hfn]; exact hres _ _ _
  · rw [hfn]; exact hargs _ hold
  · rw [hfn, hv]; rfl
  · rw [hrt]
    intro j t r hj hr
    match j, hj, hr with
    | 0, hj, hr =>
      simp [Value.resultList] at hj hr
      subst hj; subst hr
      exact okWide_bool_mk htb _
  · refine ⟨_, [], [] ++ before, ⟨[] ++ before, [], trodAll_append (hargs _ (fun _ _ => rfl)) (hres _ _ _), by rw [hv]; rfl, by simp, ?_, fun h => by cases h⟩, fun x hx _ => by simpa using hx⟩
    intro b off hx
    have hx' : MemPlace.cell b off ∈ before := by simpa using hx
    rw [hE.frozen (b := b) (off := off) (hlt _ hx')]
    exact hz b off hx'
theorem list_choose {X : Type} {p : Nat → X → Prop} : ∀ {n : Nat}, (∀ i, i < n → ∃ x, p i x) → ∃ xs : List X, xs.length = n ∧ ∀ i x, xs[i]? = some x → p i x
  | 0, _ => ⟨[], rfl, fun i x h => by simp at h⟩
  | n + 1, h => by
    obtain ⟨xs, h1, h2⟩ := list_choose (n := n) (fun i hi => h i (by omega))
    obtain ⟨x, hx⟩ := h n (by omega)
    refine ⟨xs ++ [x], by simp [h1], fun i y hy => ?_⟩
    by_cases hi : i < n
    · rw [List.getElem?_append_left (by omega)] at hy; exact h2 i y hy
    · rw [List.getElem?_append_right (by omega)] at hy
      have : i - xs.length = 0 := by
        have := (List.getElem?_eq_some_iff.1 hy).1
        simp at this; omega
      rw [this] at hy
      simp at hy; subst hy
      rw [show i = n by omega]; exact hx
variable {w : World} {base : Nat} {spare : Nat → Bool} {held : Bool}
theorem spot_of {a : Addr} {v : Value} (h : w.cell? a = some v) : a.spot = none := by
  unfold World.cell? at h
  split at h
  · cases hs : a.spot with
    | none => rfl
    | some _ => rw [hs] at h; simp at h
  · cases h
/-- a slice that came in -/
theorem open_row {X : Type} {en : X → List Value} {Wf : X → Prop} {t e fuel sz : Nat} {cs : List Value} {x : DataW H × List MemPlace} (ht : P.underlying t = some (.slice e)) (hsz : P.cellsOf e = sz) (h0 : 0 < sz) (hs : ∀ d, (en d).length = sz)
    (hel : ∀ n cs y, DataW.trod enc P w base spare held n e cs = some y → ∃ d : X, cs = en d ∧ Wf d) (h : DataW.trod enc P w base spare held fuel t cs = some x) :
    ∃ (a : Option Addr) (c : Nat) (xs : List X), cs = [.slice a xs.length c] ∧ (rowO a sz en xs).ok w ∧ xs.length ≤ c ∧ c ≤ maxLen ∧ ∀ d ∈ xs, Wf d := by
  rcases Deep.open_slice ht h with ⟨rfl, _⟩ | ⟨a, len, cap, m, n, D, Pl, rfl, hb, hl, hm, hmm, _, hi⟩
  · exact ⟨none, 0, [], rfl, rowO.nil, Nat.le_refl _, Nat.zero_le _, by simp⟩
  · have hlm : len ≤ m := by rw [hmm]; split <;> omega
    obtain ⟨xs, hxl, hxs⟩ := list_choose (n := len) (p := fun i d => w.cells? base (a.add (i * sz)) sz = some (en d) ∧ Wf d) (fun i hil => by
      obtain ⟨cs', h1, h2⟩ := hi i (by omega)
      rw [hsz] at h1
      obtain ⟨d, rfl, hw⟩ := hel _ _ _ h2
      exact ⟨d, h1, hw⟩)
    refine ⟨some a, cap, xs, by rw [hxl], ?_, by omega, hm, fun d hd => ?_⟩
    · refine rowO.ok_of (fun d _ he => by have := hs d; rw [he] at this; simp at this; omega) ?_
      intro i d hd
      obtain ⟨h1, _⟩ := hxs i d hd
      obtain ⟨_, _, hc⟩ := World.cells?_some h1
      have hsp : a.spot = none := by
        obtain ⟨d0, hd0⟩ := get_lt (xs := xs) (i := 0) (by have := (List.getElem?_eq_some_iff.1 hd).1; omega)
        obtain ⟨_, _, hc0⟩ := World.cells?_some (hxs 0 d0 hd0).1
        obtain ⟨v, hv⟩ := get_lt (xs := en d0) (i := 0) (by rw [hs]; exact h0)
        have h2 := hc0 0 h0
        rw [hv] at h2
        have := spot_of h2
        simpa [Addr.add] using this
      obtain ⟨b, o, sp⟩ := a
      simp only at hsp; subst hsp
      refine ⟨b, o, rfl, fun j v hj => ?_⟩
      have hjl : j < sz := by have := (List.getElem?_eq_some_iff.1 hj).1; rw [hs] at this; exact this
      have := hc j hjl
      rw [hj, Addr.add_lit, Addr.add_lit] at this
      exact this
    · obtain ⟨i, hi', he⟩ := List.getElem_of_mem hd
      exact (hxs i d (by rw [List.getElem?_eq_getElem hi', he])).2
theorem open_intE {k : IntKind} {e : TypeId} (he : P.underlying e = some (.int k)) : ∀ n cs y, DataW.trod enc P w base spare held n e cs = some y → ∃ d : Int, cs = enK k d ∧ (Lit.int k d).wf = true := by
  intro n cs y h
  obtain ⟨d, rfl, _, hw⟩ := DataW.trod_int he h
  exact ⟨d, rfl, hw⟩
end
end Go.J
