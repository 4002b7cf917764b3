/- The plain law, fifth part: a later asker takes nothing from those ahead; greater limits; CableLater. cable: the row CableLater -/
import Derived.Test.YtafghgomhjeabaaC12
import Derived.Test.YtafghgomhjeabaaC10
import Derived.WalkKit
import Derived.ProofKit
import Derived.OpenShut
set_option linter.unusedVariables false
set_option linter.unusedSimpArgs false
namespace Go.Proofs
open Go Go.J Go.RowKit Go.Cab
set_option linter.unusedSimpArgs false
set_option linter.unusedVariables false
theorem share_congr {c : Cable} {r r' : List Int} : ∀ {ys : List Int} {s : List Int × List Int}, (∀ y ∈ ys, r.getD y.toNat 0 = r'.getD y.toNat 0) → ys.foldl (shareStep c r) s = ys.foldl (shareStep c r') s
  | [], _, _ => rfl
  | y :: ys, s, h => by
    rw [List.foldl_cons, List.foldl_cons, show shareStep c r s y = shareStep c r' s y by simp only [shareStep, h y (List.mem_cons_self ..)]]
    exact share_congr (fun z hz => h z (List.mem_cons_of_mem _ hz))
theorem share_keep {c : Cable} {r : List Int} {k : Nat} : ∀ {ys : List Int} {s : List Int × List Int}, (∀ y ∈ ys, 0 ≤ y) → (k : Int) ∉ ys → (ys.foldl (shareStep c r) s).1.getD k 0 = s.1.getD k 0
  | [], _, _, _ => rfl
  | y :: ys, s, h0, h => by
    rw [List.foldl_cons, share_keep (fun z hz => h0 z (List.mem_cons_of_mem _ hz)) (fun hz => h (List.mem_cons_of_mem _ hz))]
    have hy := h0 y (List.mem_cons_self ..)
    have hne : y.toNat ≠ k := fun e => h (by rw [← e, Int.toNat_of_nonneg hy]; exact List.mem_cons_self ..)
    simp only [shareStep, List.getD, List.getElem?_set_ne hne]
theorem nodup_mid {xs ys : List Int} {k : Int} (h : (xs ++ k :: ys).Nodup) : k ∉ ys := by
  have := (List.nodup_append.1 h).2.1
  exact (List.nodup_cons.1 this).1
/-- whoever stands ahead in the order is granted the same -/
theorem later_same {c : Cable} {r r' ys : List Int} {k : Nat} (hn : ys.Nodup) (h0 : ∀ y ∈ ys, 0 ≤ y) {xs zs : List Int} (e : ys = xs ++ (k : Int) :: zs) (hs : ∀ y ∈ xs ++ [(k : Int)], r.getD y.toNat 0 = r'.getD y.toNat 0) :
    (shareTo c r ys).1.getD k 0 = (shareTo c r' ys).1.getD k 0 := by
  subst e
  have hz := nodup_mid hn
  have h1 : ∀ y ∈ zs, 0 ≤ y := fun y hy => h0 y (by simp [hy])
  have e2 : xs ++ (k : Int) :: zs = (xs ++ [(k : Int)]) ++ zs := by simp
  have f : ∀ (r : List Int) (s : List Int × List Int), (xs ++ (k : Int) :: zs).foldl (shareStep c r) s = zs.foldl (shareStep c r) ((xs ++ [(k : Int)]).foldl (shareStep c r) s) := fun r s => by rw [e2]; exact List.foldl_append
  rw [shareTo, shareTo, f, f, share_keep h1 hz, share_keep h1 hz, share_congr hs]
theorem minAt_mono {l l' : List Int} : ∀ {ps : List Int} {n : Int}, (∀ y ∈ ps, l.getD y.toNat 0 ≤ l'.getD y.toNat 0) → ∀ {m : Int}, n ≤ m → minAt l ps n ≤ minAt l' ps m
  | [], _, _, _, h => h
  | p :: ps, n, hp, m, h => by
    have e : ∀ (l : List Int) n, minAt l (p :: ps) n = minAt l ps (min n (l.getD p.toNat 0)) := fun _ _ => rfl
    rw [e, e]
    refine minAt_mono (fun y hy => hp y (List.mem_cons_of_mem _ hy)) ?_
    have := hp p (List.mem_cons_self ..)
    omega
/-- the cable with greater limits, up to a node -/
def upN (more : Int) (n : Nd) : Nd := { n with limit := min 3932160 (n.limit + more) }
def upTo (c : Cable) (more : Int) (i : Nat) : Cable := { c with nodes := (c.nodes.take i).map (upN more) ++ c.nodes.drop i }
theorem upTo_len (c : Cable) (more : Int) (i : Nat) : (upTo c more i).nodes.length = c.nodes.length := by simp [upTo]; omega
theorem upTo_get {c : Cable} {more : Int} {i j : Nat} : (upTo c more i).nodes[j]? = if j < i then c.nodes[j]?.map (upN more) else c.nodes[j]? := by
  simp only [upTo]
  by_cases h : j < i
  · rw [if_pos h]
    by_cases hl : j < c.nodes.length
    · rw [List.getElem?_append_left (by simp; omega)]
      simp [List.getElem?_take, h]
    · rw [List.getElem?_append_right (by simp; omega), List.getElem?_drop]
      rw [List.getElem?_eq_none (by simp; omega), List.getElem?_eq_none (by omega)]
      rfl
  · rw [if_neg h]
    by_cases hl : i < c.nodes.length
    · rw [List.getElem?_append_right (by simp; omega), List.getElem?_drop]
      congr 1
      simp; omega
    · rw [List.getElem?_eq_none (by simp; omega), List.getElem?_eq_none (by omega)]
theorem upTo_next {c : Cable} {more : Int} {i : Nat} {n : Nd} (hn : c.nodes[i]? = some n) : ({ upTo c more i with nodes := (upTo c more i).nodes.set i (upN more n) } : Cable) = upTo c more (i + 1) := by
  have hi := (List.getElem?_eq_some_iff.1 hn).1
  have : (upTo c more i).nodes.set i (upN more n) = (upTo c more (i + 1)).nodes := by
    apply List.ext_getElem?
    intro j
    rw [List.getElem?_set, upTo_get, upTo_get, upTo_len]
    by_cases h : i = j
    · subst h
      rw [if_pos rfl, if_pos hi, if_pos (by omega), hn]; rfl
    · rw [if_neg h]
      by_cases h2 : j < i
      · rw [if_pos h2, if_pos (by omega)]
      · rw [if_neg h2, if_neg (by omega)]
  rw [this]; rfl
theorem upTo_zero (c : Cable) (more : Int) : upTo c more 0 = c := by simp [upTo]
theorem up_good {n : Nd} {k : Nat} {more : Int} (hm : 0 ≤ more) (h : n.good k = true) : (upN more n).good k = true := by
  have hp := Nd.good_props h
  simp only [Nd.good, upN, Bool.and_eq_true] at h ⊢
  refine ⟨⟨⟨⟨⟨⟨h.1.1.1.1.1.1, decide_eq_true ?_⟩, decide_eq_true ?_⟩, h.1.1.1.2⟩, h.1.1.2⟩, h.1.2⟩, h.2⟩
  · omega
  · omega
def upC (c : Cable) (more : Int) : Cable := upTo c more c.nodes.length
theorem upC_get {c : Cable} {more : Int} {j : Nat} : (upC c more).nodes[j]? = c.nodes[j]?.map (upN more) := by
  rw [upC, upTo_get]
  by_cases h : j < c.nodes.length
  · rw [if_pos h]
  · rw [if_neg h, List.getElem?_eq_none (by omega)]; rfl
theorem upC_check {c : Cable} {more : Int} (hm : 0 ≤ more) (hc : c.check = 0) : (upC c more).check = 0 := by
  have hF := Fit.of hc
  have hl : (upC c more).nodes.length = c.nodes.length := upTo_len _ _ _
  have h60 := hF.le
  have hpos := hF.pos
  have hs := hF.sup
  refine check_ok (by omega) ?_ (fun i n hn => ?_)
  · have : (upC c more).supply = c.supply := rfl
    rw [hl, this]
    intro h
    rcases h with h | h
    · omega
    · simp [Span.within, Span.bad] at h
      omega
  · rw [upC_get] at hn
    obtain ⟨m, hm1, rfl⟩ := Option.map_eq_some_iff.1 hn
    exact up_good hm (hF.good i m hm1)
theorem upC_par (c : Cable) (more : Int) (k : Nat) : (upC c more).par k = c.par k := by
  simp only [Cable.par, upC_get]
  cases c.nodes[k]? with
  | none => rfl
  | some n => rfl
theorem upC_path (c : Cable) (more : Int) (k : Int) : path (upC c more) k = path c k := by
  have : ∀ f k, pathGo (upC c more) f k = pathGo c f k := by
    intro f
    induction f with
    | zero => intro k; rfl
    | succ f ih => intro k; simp only [pathGo, ih, upC_par]
  exact this _ _
theorem upC_lim {c : Cable} {more : Int} (hm : 0 ≤ more) (hF : Fit c) (k : Nat) : c.lim k ≤ (upC c more).lim k := by
  simp only [Cable.lim, upC_get]
  cases h : c.nodes[k]? with
  | none => simp
  | some n =>
    have := Nd.good_props (hF.good k n h)
    simp only [Option.map_some, upN]; omega
/-- the first in the order -/
theorem first_grant {c : Cable} {r ys : List Int} {k : Nat} (hn : ((k : Int) :: ys).Nodup) (h0 : ∀ y ∈ ys, 0 ≤ y) (hk : k < c.nodes.length) : (shareTo c r ((k : Int) :: ys)).1.getD k 0 = minAt (lims c) (path c k) (r.getD k 0) := by
  rw [shareTo, List.foldl_cons, share_keep h0 (List.nodup_cons.1 hn).1]
  simp [shareStep, List.getD, hk]
theorem first_more {c : Cable} {more : Int} (hm : 0 ≤ more) (hF : Fit c) {r ys : List Int} {k : Nat} (hn : ((k : Int) :: ys).Nodup) (h0 : ∀ y ∈ ys, 0 ≤ y) (hk : k < c.nodes.length) :
    (shareTo c r ((k : Int) :: ys)).1.getD k 0 ≤ (shareTo (upC c more) r ((k : Int) :: ys)).1.getD k 0 := by
  rw [first_grant hn h0 hk, first_grant hn h0 (by rw [show (upC c more).nodes.length = c.nodes.length from upTo_len _ _ _]; exact hk), upC_path]
  refine minAt_mono (fun y hy => ?_) (Int.le_refl _)
  obtain ⟨hy0, hyk⟩ := path_mem hF hy
  rw [lims_get (by omega), lims_get (by rw [show (upC c more).nodes.length = c.nodes.length from upTo_len _ _ _]; omega)]
  exact upC_lim hm hF _
/-- what the others ask, with those of the rank put back -/
def mix (q q2 k : List Int) (L : Int) (n i : Nat) : List Int := (List.range n).map fun j => if j < i ∧ L ≤ k.getD j 0 % 8 then q.getD j 0 else q2.getD j 0
theorem mix_len (q q2 k : List Int) (L : Int) (n i : Nat) : (mix q q2 k L n i).length = n := by simp [mix]
theorem mix_get {q q2 k : List Int} {L : Int} {n i j : Nat} (h : j < n) : (mix q q2 k L n i)[j]? = some (if j < i ∧ L ≤ k.getD j 0 % 8 then q.getD j 0 else q2.getD j 0) := by simp [mix, h]
theorem mix_zero (q q2 k : List Int) (L : Int) (n : Nat) : mix q q2 k L n 0 = reqTo q2 n := by simp [mix, reqTo]
theorem mix_same {q q2 k : List Int} {L : Int} {n i : Nat} (h : ¬ L ≤ k.getD i 0 % 8) : mix q q2 k L n i = mix q q2 k L n (i + 1) := by
  simp only [mix]
  refine List.map_congr_left (fun j _ => ?_)
  by_cases hj : j = i
  · subst hj; rw [if_neg (fun h' => h h'.2), if_neg (fun h' => h h'.2)]
  · by_cases h2 : j < i ∧ L ≤ k.getD j 0 % 8
    · rw [if_pos h2, if_pos ⟨by omega, h2.2⟩]
    · rw [if_neg h2, if_neg (fun h' => h2 ⟨by omega, h'.2⟩)]
theorem mix_set {q q2 k : List Int} {L : Int} {n i : Nat} (hi : i < n) (h : L ≤ k.getD i 0 % 8) : (mix q q2 k L n i).set i (q.getD i 0) = mix q q2 k L n (i + 1) := by
  apply List.ext_getElem?
  intro j
  rw [List.getElem?_set, mix_len]
  by_cases hj : i = j
  · subst hj
    rw [if_pos rfl, if_pos hi, mix_get hi, if_pos ⟨by omega, h⟩]
  · rw [if_neg hj]
    by_cases hn : j < n
    · rw [mix_get hn, mix_get hn]
      by_cases h2 : j < i ∧ L ≤ k.getD j 0 % 8
      · rw [if_pos h2, if_pos ⟨by omega, h2.2⟩]
      · rw [if_neg h2, if_neg (fun h' => h2 ⟨by omega, h'.2⟩)]
    · rw [List.getElem?_eq_none (by rw [mix_len]; omega), List.getElem?_eq_none (by rw [mix_len]; omega)]
theorem mix_in {q q2 k : List Int} {L : Int} {n i : Nat} (hq : ∀ x ∈ q, 0 ≤ x ∧ x ≤ 65535) (hq2 : ∀ x ∈ q2, 0 ≤ x ∧ x ≤ 65535) : ∀ x ∈ mix q q2 k L n i, 0 ≤ x ∧ x ≤ 65536 := by
  intro x hx
  obtain ⟨j, _, rfl⟩ := List.mem_map.1 hx
  have h1 := getD_in (by omega) hq j
  have h2 := getD_in (by omega) hq2 j
  split <;> omega
theorem mix_rank {q q2 k : List Int} {L : Int} {n j : Nat} (hj : j < n) (h : L ≤ k.getD j 0 % 8) : (reqTo q n).getD j 0 = (mix q q2 k L n n).getD j 0 := by
  have e1 : (reqTo q n)[j]? = (mix q q2 k L n n)[j]? := by rw [reqTo_get hj, mix_get hj, if_pos ⟨hj, h⟩]
  simp only [List.getD, e1]
theorem later_true (c : Cable) (q q2 k : List Int) (least more : Int) (hq : ∀ x ∈ q, 0 ≤ x ∧ x ≤ 65535) (hq2 : ∀ x ∈ q2, 0 ≤ x ∧ x ≤ 65535) (hk : ∀ x ∈ k, 0 ≤ x ∧ x ≤ 255) (hl : 0 ≤ least ∧ least ≤ 255) (hm : 0 ≤ more ∧ more ≤ 65535) : F_CableLater c q q2 k least more = some true := by
  unfold F_CableLater
  obtain ⟨b, hb, hbc⟩ := valid_eq c
  rw [hb, bd_some', fine_eq]
  cases b with
  | false => rfl
  | true =>
    have hc := hbc rfl
    have hF := Fit.of hc
    have h60 := hF.le
    have hpos := hF.pos
    rw [show sel (!true) = sel (α := Bool) false from rfl, sel_false, granting_eq h60 hq hk, bd_some', granting_eq h60 hq2 hk, bd_some']
    have hw := Go.IntWalk.i64_in least (by omega)
    have hw2 := Go.IntWalk.i64_in more (by omega)
    refine loop_run c.nodes.length (fun i => ((i : Int), mix q q2 k (least % 8) c.nodes.length i)) ((c.nodes.length : Int), mix q q2 k (least % 8) c.nodes.length c.nodes.length) (by rw [mix_zero]; rfl) (fun i hi => ?_) ?_ ?_
    · dsimp only
      rw [sel_pos (by rw [reqTo_len]; exact nat_lt hi), ix_nat (ordTo_get hi), ck_pos hw, ck_pos (by omega)]
      by_cases h : least % 8 ≤ k.getD i 0 % 8
      · rw [sel_pos (by simpa using h), ix_nat (reqTo_get hi), ix_nat (mix_get hi), ck_pos (i64_nat (by omega)), Int.toNat_natCast, mix_set hi h, cast_succ]
      · rw [sel_neg (decide_eq_false h), ck_pos (i64_nat (by omega)), mix_same h, cast_succ]
    · dsimp only
      rw [sel_neg (by rw [reqTo_len]; exact nat_nlt)]
    dsimp only
    rw [F_Share, bd_some', F_Share, bd_some', share_is hc (reqTo_len _ _) (ordTo_len _ _) (reqTo_in hq _), share_is hc (mix_len _ _ _ _ _ _) (ordTo_len _ _) (mix_in hq hq2)]
    rw [ck_pos (by simp; omega), List.nil_append]
    refine loop_run c.nodes.length (fun i => ((i : Int), upTo c more i)) ((c.nodes.length : Int), upC c more) (by rw [upTo_zero]; rfl) (fun i hi => ?_) ?_ ?_
    · obtain ⟨n, hn⟩ := get_lt hi
      have hg : (upTo c more i).nodes[i]? = some n := by rw [upTo_get, if_neg (by omega)]; exact hn
      have hb := Nd.good_props (hF.good i n hn)
      dsimp only
      rw [sel_pos (by rw [upTo_len]; exact nat_lt hi), ix_nat hg, ck_pos hw2, ck_pos ⟨by omega, by omega⟩, ix_nat hg, ck_pos (i64_nat (by omega)), Int.toNat_natCast, cast_succ, ← upTo_next hn]
      rfl
    · dsimp only
      rw [sel_neg (by rw [upTo_len]; exact nat_nlt)]
      rfl
    dsimp only
    have hul : (upC c more).nodes.length = c.nodes.length := upTo_len _ _ _
    rw [F_Share, bd_some', share_is (upC_check hm.1 hc) (by rw [reqTo_len, hul]) (by rw [ordTo_len, hul]) (reqTo_in hq _)]
    obtain ⟨ho1, ho2⟩ := rOrder_eq (ranks := ordTo k c.nodes.length) (by rw [ordTo_len]; omega)
    rw [ho1, bd_some']
    have hnd := order_nodup ho2
    have hmem := ho2.mem
    have hol := ho2.length
    rw [ordTo_len] at hmem hol
    have hsort := ho2.2
    have hin : ∀ j : Nat, j < c.nodes.length → (j : Int) ∈ orderOf (ordTo k c.nodes.length) := fun j hj => ho2.1.mem_iff.2 (List.mem_map.2 ⟨j, by rw [ordTo_len]; exact List.mem_range.2 hj, rfl⟩)
    generalize orderOf (ordTo k c.nodes.length) = ys at hnd hmem hol hsort hin
    have la : (shareTo c (reqTo q c.nodes.length) ys).1.length = c.nodes.length := shareTo_len _ _ _
    have lb : (shareTo c (mix q q2 k (least % 8) c.nodes.length c.nodes.length) ys).1.length = c.nodes.length := shareTo_len _ _ _
    have lx : (shareTo (upC c more) (reqTo q c.nodes.length) ys).1.length = c.nodes.length := by rw [shareTo_len, hul]
    rw [sel_neg (by simp [la, lb, lx, reqTo_len])]
    cases hy : ys with
    | nil => rw [hy] at hol; simp at hol; omega
    | cons y ys' =>
      have hyb := hmem y (by rw [hy]; exact List.mem_cons_self ..)
      rw [ix_int (x := y) (by omega) rfl, ← hy]
      refine loop_run c.nodes.length (fun i => (i : Int)) (.inl (c.nodes.length : Int)) rfl (fun i hi => ?_) ?_ ?_
      · obtain ⟨a, ha⟩ := get_lt (xs := (shareTo c (reqTo q c.nodes.length) ys).1) (i := i) (by omega)
        obtain ⟨b, hb⟩ := get_lt (xs := (shareTo c (mix q q2 k (least % 8) c.nodes.length c.nodes.length) ys).1) (i := i) (by omega)
        rw [sel_pos (by rw [reqTo_len]; exact nat_lt hi), ix_nat (ordTo_get hi), ck_pos hw, ck_pos (by omega)]
        by_cases h : least % 8 ≤ k.getD i 0 % 8
        · have hab : a = b := by
            obtain ⟨xs, zs, e⟩ := List.append_of_mem (hin i hi)
            have := later_same (c := c) (r := reqTo q c.nodes.length) (r' := mix q q2 k (least % 8) c.nodes.length c.nodes.length) hnd (fun y hy => (hmem y hy).1) e (fun z hz => by
              have hzm : z ∈ ys := by rw [e]; rcases List.mem_append.1 hz with h | h
                                      · exact List.mem_append_left _ h
                                      · simp at h; subst h; simp
              have hzb := hmem z hzm
              have hzr : k.getD i 0 % 8 ≤ k.getD z.toNat 0 % 8 := by
                rcases List.mem_append.1 hz with h | h
                · rw [e] at hsort
                  have hp := (List.pairwise_append.1 hsort).2.2 z h (i : Int) (List.mem_cons_self ..)
                  have e1 : (ordTo k c.nodes.length).getD z.toNat 0 = k.getD z.toNat 0 % 8 := by rw [List.getD, ordTo_get (by omega)]; rfl
                  have e2 : (ordTo k c.nodes.length).getD (Int.toNat i) 0 = k.getD i 0 % 8 := by rw [List.getD, Int.toNat_natCast, ordTo_get hi]; rfl
                  simp only [taken, e1, e2] at hp
                  omega
                · simp at h; subst h; simp
              exact mix_rank (by omega) (by omega))
            simp only [List.getD, ha, hb, Option.getD_some] at this
            exact this
          rw [show (decide (least % 8 ≤ k.getD i 0 % 8) == true) = true by simp only [decide_eq_true h]; rfl, ixg_true, ix_nat ha, ixg_true, ix_nat hb, sel_neg (by rw [Bool.and_eq_false_iff]; right; simpa using hab), ck_pos (i64_nat (by omega)), cast_succ]
        · rw [show (decide (least % 8 ≤ k.getD i 0 % 8) == true) = false by simp only [decide_eq_false h]; rfl, ixg_false, ixg_false, sel_neg (by rw [Bool.and_eq_false_iff]; left; exact decide_eq_false h), ck_pos (i64_nat (by omega)), cast_succ]
      · rw [sel_neg (by rw [reqTo_len]; exact nat_nlt)]
      · rw [thn_inl]
        obtain ⟨a, ha⟩ := get_lt (xs := (shareTo c (reqTo q c.nodes.length) ys).1) (i := y.toNat) (by omega)
        obtain ⟨x, hx⟩ := get_lt (xs := (shareTo (upC c more) (reqTo q c.nodes.length) ys).1) (i := y.toNat) (by omega)
        have hyt : ((y.toNat : Nat) : Int) = y := by omega
        have := first_more (more := more) hm.1 hF (r := reqTo q c.nodes.length) (k := y.toNat) (ys := ys') (by rw [hyt, ← hy]; exact hnd) (fun z hz => (hmem z (by rw [hy]; exact List.mem_cons_of_mem _ hz)).1) (by omega)
        rw [hyt, ← hy] at this
        simp only [List.getD, ha, hx, Option.getD_some] at this
        rw [ix_int hyb.1 hx, ix_int hyb.1 ha, show (decide (a ≤ x)) = true from decide_eq_true this]
        rfl
end Go.Proofs
namespace Go.Proofs.Ytafghgomhjeabaa
open Go Go.J Go.RowKit Go.Cab Go.ChangeShapes Go.WideShapes Go.ChangeAt
set_option linter.unusedVariables false
namespace cableLater
theorem own : ownKnob Try.prog.godebug = none := by kernel_rfl
set_option maxRecDepth 100000 in
theorem contract (H : Type) (enc : TypeId × Value → H) (W : World) (base : Nat) (args : Array Value) (ds gs : List (DataW H)) (before : List MemPlace)
    (hval : ∀ (j : Nat) t v, Try.f3.params[j]? = some t → args[j]? = some v → Value.okWide Try.prog W .any base t v)
    (hW : DataW.Whole enc Try.prog Try.f3.params.toList Rows.cableLaterSpec.vars false W args.toList ds gs before) :
    Calls Try.prog 3 args W fun e W' => ∃ v, e = .returned v ∧ Rows.cableLaterSpec.post enc Try.prog Try.f3 false true false false W args v W' := by
  have hW' := hW
  obtain ⟨p, q, hA0, hV, rfl, hfz, hnd⟩ := hW
  have hA : DataW.TrodAll enc Try.prog W 0 (fun _ => true) true Try.f3.params.toList args.toList ds p := hA0
  rw [Try.params3] at hA hval
  clear hA0
  obtain ⟨v0, vs0, d0, ds0, p0, q0, hargs, rfl, rfl, h0, r0⟩ := trodAll_cons hA
  obtain ⟨v1, vs1, d1, ds1, p1, q1, rfl, rfl, rfl, h1, r1⟩ := trodAll_cons r0
  obtain ⟨v2, vs2, d2, ds2, p2, q2, rfl, rfl, rfl, h2, r2⟩ := trodAll_cons r1
  obtain ⟨v3, vs3, d3, ds3, p3, q3, rfl, rfl, rfl, h3, r3⟩ := trodAll_cons r2
  obtain ⟨v4, vs4, d4, ds4, p4, q4, rfl, rfl, rfl, h4, r4⟩ := trodAll_cons r3
  obtain ⟨v5, vs5, d5, ds5, p5, q5, rfl, rfl, rfl, h5, r5⟩ := trodAll_cons r4
  obtain ⟨rfl, rfl, rfl⟩ := trodAll_nil r5
  obtain rfl : args = #[v0, v1, v2, v3, v4, v5] := by cases args; simp_all
  obtain ⟨rfl, rfl⟩ := trodVars_none hV
  obtain ⟨ca, cc, c, rfl, co, cl⟩ := open_cable (hval 0 26 v0 (by rfl) (by rfl)) h0
  obtain ⟨qa, qc, q, rfl, qo, ql, qw⟩ := open_ints (k := .u16) Try.underlying27 Try.underlying29 cells29 (hval 1 27 v1 (by rfl) (by rfl)) h1
  obtain ⟨q2a, q2c, q2, rfl, q2o, q2l, q2w⟩ := open_ints (k := .u16) Try.underlying27 Try.underlying29 cells29 (hval 2 27 v2 (by rfl) (by rfl)) h2
  obtain ⟨ka, kc, k, rfl, ko, kl, kw⟩ := open_ints (k := .u8) Try.underlying28 Try.underlying5 cells5 (hval 3 28 v3 (by rfl) (by rfl)) h3
  obtain ⟨least, rfl, rfl, rfl, leastw⟩ := open_int Try.underlying5 (hval 4 5 v4 (by rfl) (by rfl)) h4
  obtain ⟨more, rfl, rfl, rfl, morew⟩ := open_int Try.underlying29 (hval 5 29 v5 (by rfl) (by rfl)) h5
  have walk := CableLater_calls W ca cc c qa qc q q2a q2c q2 ka kc k least more co cl qo ql q2o q2l ko kl (later_true c q q2 k least more (fun x hx => bounds_u16 (qw x hx)) (fun x hx => bounds_u16 (q2w x hx)) (fun x hx => bounds_u8 (kw x hx)) (bounds_u8 leastw) (bounds_u16 morew))
  refine walk.mono fun e W' hp => ?_
  obtain ⟨rfl, hE⟩ := hp
  refine ⟨_, rfl, ?_⟩
  exact lawPost (P := Try.prog) laidOut (readable_all (by kernel_rfl)) rfl (fun _ => rfl) (by rfl) (by kernel_rfl) hW' hE
set_option maxRecDepth 100000 in
theorem lifted (os : Os) (started : os.Started) (H : Type) (enc : TypeId × Value → H) :
    ReturnsInHanded {} Try.checked os 3 .any (Rows.cableLaterSpec.pre6 enc Try.prog Try.f3 Rows.cableLaterRow.domain false) (Rows.cableLaterSpec.post enc Try.prog Try.f3 false true false false) := by
  refine returnsInHanded_of_change (C := Try.checked) own started (by kernel_rfl) Try.func3
    (ChangeSpec.witness6 (enc := enc) (C := Try.checked) false ⟨#[], #[.agg #[.int .i64 0, .int .i64 0, .slice none 0 0], .slice none 0 0, .slice none 0 0, .slice none 0 0, .int .u8 0, .int .u16 0], []⟩ 8 (by kernel_rfl) (by kernel_rfl) (by kernel_rfl) (by kernel_rfl)) ?_
  intro W base args ds gs before hval hW hcnd _
  exact contract H enc W base args ds gs before hval hW
theorem over : Rows.cableLaterRow.holds Try.pinned (OpenSpec.ofChange Rows.cableLaterSpec) :=
  OpenClaim.holds_of_wide 3 Try.f3 rfl rfl rfl rfl rfl rfl rfl ⟨rfl, rfl, rfl, rfl, rfl⟩ rfl rfl rfl rfl rfl (by kernel_rfl) Try.func3 (by kernel_rfl)
    (of_decide_eq_true (by kernel_rfl)) (by unfold Func.isWrapper; first | (rw [if_pos (by decide +kernel)]; kernel_rfl) | (rw [if_neg (by decide +kernel)]; exact ⟨rfl, rfl⟩))
    (fun os started H enc _ => lifted os started H enc)
theorem proved : Rows.CableLaterSaid := over
end cableLater
end Go.Proofs.Ytafghgomhjeabaa
