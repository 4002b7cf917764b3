/- The plain law, fourth part: what a granting asks; CableGranted. cable: the row CableGranted -/
import Derived.Test.YtafghgomhjeabaaC9
import Derived.Test.YtafghgomhjeabaaC10
import Derived.WalkKit
import Derived.ProofKit
import Derived.OpenShut
set_option linter.unusedVariables false
set_option linter.unusedSimpArgs false
namespace Go.Proofs
open Go Go.J Go.RowKit Go.Cab
set_option linter.unusedSimpArgs false
set_option linter.unusedVariables false
def reqTo (q : List Int) (n : Nat) : List Int := (List.range n).map fun i => q.getD i 0
def ordTo (k : List Int) (n : Nat) : List Int := (List.range n).map fun i => k.getD i 0 % 8
theorem reqTo_len (q : List Int) (n : Nat) : (reqTo q n).length = n := by simp [reqTo]
theorem ordTo_len (q : List Int) (n : Nat) : (ordTo q n).length = n := by simp [ordTo]
theorem reqTo_succ (q : List Int) (n : Nat) : reqTo q (n + 1) = reqTo q n ++ [q.getD n 0] := by simp [reqTo, List.range_succ]
theorem ordTo_succ (q : List Int) (n : Nat) : ordTo q (n + 1) = ordTo q n ++ [q.getD n 0 % 8] := by simp [ordTo, List.range_succ]
theorem reqTo_get {q : List Int} {n i : Nat} (h : i < n) : (reqTo q n)[i]? = some (q.getD i 0) := by simp [reqTo, h]
theorem ordTo_get {q : List Int} {n i : Nat} (h : i < n) : (ordTo q n)[i]? = some (q.getD i 0 % 8) := by simp [ordTo, h]
theorem getD_in {q : List Int} {B : Int} (hB : 0 ≤ B) (h : ∀ x ∈ q, 0 ≤ x ∧ x ≤ B) (i : Nat) : 0 ≤ q.getD i 0 ∧ q.getD i 0 ≤ B := by
  simp only [List.getD]
  cases hx : q[i]? with
  | none => simpa using hB
  | some x => exact h x (List.mem_of_getElem? hx)
theorem reqTo_in {q : List Int} (h : ∀ x ∈ q, 0 ≤ x ∧ x ≤ 65535) (n : Nat) : ∀ x ∈ reqTo q n, 0 ≤ x ∧ x ≤ 65536 := by
  intro x hx
  obtain ⟨i, _, rfl⟩ := List.mem_map.1 hx
  have := getD_in (by omega) h i
  omega
theorem granting_eq {c : Cable} {q k : List Int} (hn : c.nodes.length ≤ 60) (hq : ∀ x ∈ q, 0 ≤ x ∧ x ≤ 65535) (hk : ∀ x ∈ k, 0 ≤ x ∧ x ≤ 255) : F_granting c q k = some (reqTo q c.nodes.length, ordTo k c.nodes.length) := by
  unfold F_granting
  refine loop_run c.nodes.length (fun i => ((i : Int), ordTo k i, reqTo q i)) ((c.nodes.length : Int), ordTo k c.nodes.length, reqTo q c.nodes.length) (by simp [ordTo, reqTo]) (fun i hi => ?_) ?_ rfl
  · have e1 : sel (decide ((i : Int) < (q.length : Int))) (ix q (i : Int) fun x62 => (ck (IntKind.wrap .i64 x62 = x62) (some x62))) (some (0 : Int)) = some (q.getD i 0) := by
      by_cases h : i < q.length
      · obtain ⟨x, hx⟩ := get_lt h
        have := hq x (List.mem_of_getElem? hx)
        rw [sel_pos (nat_lt h), ix_nat hx, ck_pos (Go.IntWalk.i64_in _ (by omega))]
        simp [List.getD, hx]
      · rw [sel_neg (by simp; omega)]
        simp [List.getD, List.getElem?_eq_none (by omega : q.length ≤ i)]
    have e2 : sel (decide ((i : Int) < (k.length : Int))) (ix k (i : Int) fun x77 => (ck (IntKind.wrap .i64 x77 = x77) (ck (0 ≤ x77 ∧ 1 ≤ (8 : Int)) (some (x77 % (8 : Int)))))) (some (0 : Int)) = some (k.getD i 0 % 8) := by
      by_cases h : i < k.length
      · obtain ⟨x, hx⟩ := get_lt h
        have := hk x (List.mem_of_getElem? hx)
        rw [sel_pos (nat_lt h), ix_nat hx, ck_pos (Go.IntWalk.i64_in _ (by omega)), ck_pos (by omega)]
        simp [List.getD, hx]
      · rw [sel_neg (by simp; omega)]
        simp [List.getD, List.getElem?_eq_none (by omega : k.length ≤ i)]
    dsimp only
    rw [sel_pos (nat_lt hi), e1, bd_some', e2, bd_some', ck_pos (by simp [reqTo_len]; omega), ck_pos (by simp [ordTo_len]; omega), ck_pos (i64_nat (by omega)), reqTo_succ, ordTo_succ, cast_succ]
  · dsimp only
    rw [sel_neg nat_nlt]
theorem share_is {c : Cable} (hc : c.check = 0) {q o : List Int} (hq : q.length = c.nodes.length) (ho : o.length = c.nodes.length) (hqb : ∀ x ∈ q, 0 ≤ x ∧ x ≤ 65536) : shareV c q o = ((shareTo c q (orderOf o)).1, 0) := by
  have hb : q.any badAmp = false := by
    rw [List.any_eq_false]
    intro x hx
    have := hqb x hx
    simp [badAmp]; omega
  simp [shareV, hc, ho, ampsV, hq, hb]
theorem shared_of {c : Cable} (hc : c.check = 0) {q o : List Int} (hq : q.length = c.nodes.length) (ho : o.length = c.nodes.length) (hqb : ∀ x ∈ q, 0 ≤ x ∧ x ≤ 65536) : Shared c q (orderOf o) (shareTo c q (orderOf o)).1 (shareTo c q (orderOf o)).2 := by
  have hF := Fit.of hc
  have h60 := hF.le
  obtain ⟨ho1, ho2⟩ := rOrder_eq (ranks := o) (by omega)
  have hom := ho2.mem
  have := Shared.all hF hq hqb (order_nodup ho2) (fun y hy => by have := hom y hy; omega) (orderOf o).length (Nat.le_refl _)
  rwa [List.take_of_length_le (Nat.le_refl _)] at this
theorem share_checked {c : Cable} (hc : c.check = 0) {q ys g left : List Int} (h : Shared c q ys g left) : checkShareV c g = (0, 0) := by
  have hF := Fit.of hc
  have ha : ampsV c.nodes.length g = 0 := by
    have hb : g.any badAmp = false := by
      rw [List.any_eq_false]
      intro x hx
      have := h.gb x hx
      simp [badAmp]; omega
    simp [ampsV, h.gl, hb]
  refine share_none ha hc ?_
  intro s hs
  obtain ⟨i, hi⟩ := List.getElem?_of_mem hs
  have hl2 : i < c.nodes.length := by
    have := (List.getElem?_eq_some_iff.1 hi).1
    simp at this; omega
  obtain ⟨n, hn⟩ := get_lt hl2
  rw [zip_get hF h.gl hn] at hi
  obtain rfl := Option.some.inj hi
  have h1 := h.lc i hl2
  have h2 := mem_getD h.lb (i := i) (by rw [h.ll]; omega)
  rw [lim_of hn] at h1
  simp
  omega
def full (c : Cable) (g : List Int) (ps : List Int) : Bool := ps.any fun y => decide (carr c g y = c.lim y.toNat)
theorem full_take {c : Cable} {g ps : List Int} {j : Nat} {y : Int} (h : ps[j]? = some y) : full c g (ps.take (j + 1)) = (full c g (ps.take j) || decide (carr c g y = c.lim y.toNat)) := by
  obtain ⟨h1, e1⟩ := List.getElem?_eq_some_iff.1 h
  simp [full, List.take_succ_eq_append_getElem h1, e1]
theorem sum_take {g l : List Int} {i : Nat} {x y : Int} (hx : l[i]? = some x) (hy : g[x.toNat]? = some y) : ((l.take (i + 1)).map fun i => g.getD i.toNat 0).sum = ((l.take i).map fun i => g.getD i.toNat 0).sum + y := by
  obtain ⟨h1, e1⟩ := List.getElem?_eq_some_iff.1 hx
  rw [List.take_succ_eq_append_getElem h1, List.map_append, List.sum_append, e1]
  simp [List.getD, hy]
theorem sum_in {g l : List Int} (hl : ∀ x ∈ l, 0 ≤ x ∧ x < (g.length : Int)) (hll : l.length ≤ 1000) (hg : ∀ x ∈ g, 0 ≤ x ∧ x ≤ 65536) (i : Nat) : -65536000 ≤ ((l.take i).map fun i => g.getD i.toNat 0).sum ∧ ((l.take i).map fun i => g.getD i.toNat 0).sum ≤ 65536000 := by
  have hs := sum_bound (B := 65536) (by omega) (l := (l.take i).map fun i => g.getD i.toNat 0) (fun z hz => by
    obtain ⟨j, hj, rfl⟩ := List.mem_map.1 hz
    have hjb := hl j (List.mem_of_mem_take hj)
    obtain ⟨z, hz⟩ := get_lt (xs := g) (i := j.toNat) (by omega)
    have := hg z (List.mem_of_getElem? hz)
    simp only [List.getD, hz, Option.getD_some]; omega)
  simp only [List.length_map, List.length_take] at hs
  omega
theorem valid_eq (c : Cable) : ∃ b, F_valid c = some b ∧ (b = true → c.check = 0) := by
  unfold F_valid
  rw [show F_long c = some _ from rfl, bd_some', rCheck_eq]
  generalize (((decide ((20 : Int) < (c.nodes.length : Int))) && (decide ((c.nodes.length : Int) ≤ (60 : Int)))) || (decide ((70 : Int) < (c.nodes.length : Int)))) = b
  cases b
  · exact ⟨_, rfl, fun h => by simpa using h⟩
  · exact ⟨_, rfl, fun h => by simp at h⟩

theorem granted_true (c : Cable) (q k : List Int) (hq : ∀ x ∈ q, 0 ≤ x ∧ x ≤ 65535) (hk : ∀ x ∈ k, 0 ≤ x ∧ x ≤ 255) : F_CableGranted c q k = some true := by
  unfold F_CableGranted
  obtain ⟨b, hb, hbc⟩ := valid_eq c
  rw [hb, bd_some', fine_eq]
  cases b with
  | false => rfl
  | true =>
    have hc := hbc rfl
    have hF := Fit.of hc
    have h60 := hF.le
    rw [show sel (!true) = sel (α := Bool) false from rfl, sel_false, granting_eq h60 hq hk, bd_some', F_Share, bd_some', share_is hc (reqTo_len _ _) (ordTo_len _ _) (reqTo_in hq _)]
    have hS := shared_of hc (reqTo_len q c.nodes.length) (ordTo_len k c.nodes.length) (reqTo_in hq _)
    obtain ⟨_, ho2⟩ := rOrder_eq (ranks := ordTo k c.nodes.length) (by rw [ordTo_len]; omega)
    generalize shareTo c (reqTo q c.nodes.length) (orderOf (ordTo k c.nodes.length)) = s at hS
    obtain ⟨g, left⟩ := s
    simp only at hS
    dsimp only
    have hgl := hS.gl
    rw [sel_neg (by simp [hgl]), F_CheckShare, bd_some', share_checked hc hS, sel_neg (by simp)]
    refine loop_run c.nodes.length (fun i => (i : Int)) (.inl (c.nodes.length : Int)) rfl (fun i hi => ?_) ?_ rfl
    · obtain ⟨x, hx⟩ := get_lt (xs := g) (i := i) (by omega)
      have hxb := hS.gb x (List.mem_of_getElem? hx)
      have hr : (reqTo q c.nodes.length)[i]? = some (q.getD i 0) := reqTo_get hi
      have hmem : (i : Int) ∈ orderOf (ordTo k c.nodes.length) := ho2.1.mem_iff.2 (List.mem_map.2 ⟨i, by rw [ordTo_len]; exact List.mem_range.2 hi, rfl⟩)
      obtain ⟨hle, hfull⟩ := hS.le _ hmem
      have eg : g.getD i 0 = x := by simp [List.getD, hx]
      have er : (reqTo q c.nodes.length).getD i 0 = q.getD i 0 := by rw [List.getD, hr]; rfl
      rw [Int.toNat_natCast, eg, er] at hle hfull
      rw [sel_pos (by rw [hgl]; exact nat_lt hi), ix_nat hx, show (decide (x < 0) == false) = true by simp; omega, ixg_true, ix_nat hx, ixg_true, ix_nat hr, sel_neg (by rw [Bool.or_eq_false_iff, decide_eq_false_iff_not, decide_eq_false_iff_not]; omega), ix_nat hx, ix_nat hr]
      by_cases he : x = q.getD i 0
      · rw [sel_pos (by rw [decide_eq_true_eq]; exact he), ck_pos (i64_nat (by omega)), cast_succ]
      · rw [sel_neg (decide_eq_false he), F_Path, ck_pos ⟨hc, by omega, by omega⟩, bd_some']
        have hfl : full c g (path c i) = true := by
          obtain ⟨y, hy, hl0⟩ := hfull (by omega)
          obtain ⟨hy0, hyk⟩ := path_mem hF hy
          have := hS.lc y.toNat (by omega)
          rw [hl0, Int.toNat_of_nonneg hy0] at this
          exact List.any_eq_true.2 ⟨y, hy, by simp; omega⟩
        have hpl := path_length hF (k := i) (by omega)
        refine loop_run (path c i).length (fun j => ((j : Int), full c g ((path c i).take j))) (.inl (((path c i).length : Int), full c g (path c i))) (by simp [full]) (fun j hj => ?_) ?_ ?_
        · obtain ⟨y, hy⟩ := get_lt hj
          obtain ⟨hy0, hyk⟩ := path_mem hF (List.mem_of_getElem? hy)
          obtain ⟨m, hm⟩ := get_lt (xs := c.nodes) (i := y.toNat) (by omega)
          dsimp only
          rw [sel_pos (nat_lt hj), ix_nat hy, show (decide (y < 0) == false) = true by simp; omega, ixg_true, ix_nat hy, sel_neg (by simp; omega), ix_nat hy, F_Subtree, ck_pos ⟨hc, by omega, by omega⟩, bd_some']
          have hst := subtree_len60 hF y
          have hsm : ∀ x ∈ subtree c y, 0 ≤ x ∧ x < (g.length : Int) := fun x hx => by have := (subtree_mem.1 hx).1; omega
          refine loop_run (subtree c y).length (fun l => ((l : Int), (((subtree c y).take l).map fun i => g.getD i.toNat 0).sum)) (.inl (((subtree c y).length : Int), carr c g y)) (by simp) (fun l hl => ?_) ?_ ?_
          · obtain ⟨z, hz⟩ := get_lt hl
            have hzb := hsm z (List.mem_of_getElem? hz)
            obtain ⟨v, hv⟩ := get_lt (xs := g) (i := z.toNat) (by omega)
            have hvb := hS.gb v (List.mem_of_getElem? hv)
            have hs := sum_in hsm (by omega) hS.gb l
            dsimp only
            rw [sel_pos (nat_lt hl), ix_nat hz, show (decide (z < 0) == false) = true by simp; omega, ixg_true, ix_nat hz, sel_neg (by simp; omega), ix_nat hz, ix_int hzb.1 hv, ck_pos ⟨by omega, by omega⟩, ck_pos (i64_nat (by omega)), sum_take hz hv, cast_succ]
          · dsimp only
            rw [sel_neg nat_nlt, List.take_of_length_le (Nat.le_refl _), carr]
          · rw [full_take hy]
            generalize full c g ((path c i).take j) = b
            cases b
            · simp only [thn_inl, decide_true]
              rw [show ((false == false) && true == true) = true by decide, ixg_true, ix_nat hy, ixg_true, ix_int hy0 hm, ck_pos (i64_nat (by omega)), cast_succ, lim_of hm]
              simp
            · rw [thn_inl, Bool.true_or]
              have e : ∀ b : Bool, ((true == false) && b) = false := fun b => by cases b <;> rfl
              rw [e, ixg_false, ixg_false, ck_pos (i64_nat (by omega)), cast_succ, Bool.true_or]
        · dsimp only
          rw [sel_neg nat_nlt, List.take_of_length_le (Nat.le_refl _)]
        · simp only [thn_inl]
          rw [hfl, sel_neg (by simp), ck_pos (i64_nat (by omega)), cast_succ]
    · rw [sel_neg (by rw [hgl]; exact nat_nlt)]
end Go.Proofs
namespace Go.Proofs.Ytafghgomhjeabaa
open Go Go.J Go.RowKit Go.Cab Go.ChangeShapes Go.WideShapes Go.ChangeAt
set_option linter.unusedVariables false
namespace cableGranted
theorem own : ownKnob Try.prog.godebug = none := by kernel_rfl
set_option maxRecDepth 100000 in
theorem contract (H : Type) (enc : TypeId × Value → H) (W : World) (base : Nat) (args : Array Value) (ds gs : List (DataW H)) (before : List MemPlace)
    (hval : ∀ (j : Nat) t v, Try.f5.params[j]? = some t → args[j]? = some v → Value.okWide Try.prog W .any base t v)
    (hW : DataW.Whole enc Try.prog Try.f5.params.toList Rows.cableGrantedSpec.vars false W args.toList ds gs before) :
    Calls Try.prog 5 args W fun e W' => ∃ v, e = .returned v ∧ Rows.cableGrantedSpec.post enc Try.prog Try.f5 false true false false W args v W' := by
  have hW' := hW
  obtain ⟨p, q, hA0, hV, rfl, hfz, hnd⟩ := hW
  have hA : DataW.TrodAll enc Try.prog W 0 (fun _ => true) true Try.f5.params.toList args.toList ds p := hA0
  rw [Try.params5] at hA hval
  clear hA0
  obtain ⟨v0, vs0, d0, ds0, p0, q0, hargs, rfl, rfl, h0, r0⟩ := trodAll_cons hA
  obtain ⟨v1, vs1, d1, ds1, p1, q1, rfl, rfl, rfl, h1, r1⟩ := trodAll_cons r0
  obtain ⟨v2, vs2, d2, ds2, p2, q2, rfl, rfl, rfl, h2, r2⟩ := trodAll_cons r1
  obtain ⟨rfl, rfl, rfl⟩ := trodAll_nil r2
  obtain rfl : args = #[v0, v1, v2] := by cases args; simp_all
  obtain ⟨rfl, rfl⟩ := trodVars_none hV
  obtain ⟨ca, cc, c, rfl, co, cl⟩ := open_cable (hval 0 26 v0 (by rfl) (by rfl)) h0
  obtain ⟨qa, qc, q, rfl, qo, ql, qw⟩ := open_ints (k := .u16) Try.underlying27 Try.underlying29 cells29 (hval 1 27 v1 (by rfl) (by rfl)) h1
  obtain ⟨ka, kc, k, rfl, ko, kl, kw⟩ := open_ints (k := .u8) Try.underlying28 Try.underlying5 cells5 (hval 2 28 v2 (by rfl) (by rfl)) h2
  have walk := CableGranted_calls W ca cc c qa qc q ka kc k co cl qo ql ko kl (granted_true c q k (fun x hx => bounds_u16 (qw x hx)) (fun x hx => bounds_u8 (kw x hx)))
  refine walk.mono fun e W' hp => ?_
  obtain ⟨rfl, hE⟩ := hp
  refine ⟨_, rfl, ?_⟩
  exact lawPost (P := Try.prog) laidOut (readable_all (by kernel_rfl)) rfl (fun _ => rfl) (by rfl) (by kernel_rfl) hW' hE
set_option maxRecDepth 100000 in
theorem lifted (os : Os) (started : os.Started) (H : Type) (enc : TypeId × Value → H) :
    ReturnsInHanded {} Try.checked os 5 .any (Rows.cableGrantedSpec.pre6 enc Try.prog Try.f5 Rows.cableGrantedRow.domain false) (Rows.cableGrantedSpec.post enc Try.prog Try.f5 false true false false) := by
  refine returnsInHanded_of_change (C := Try.checked) own started (by kernel_rfl) Try.func5
    (ChangeSpec.witness6 (enc := enc) (C := Try.checked) false ⟨#[], #[.agg #[.int .i64 0, .int .i64 0, .slice none 0 0], .slice none 0 0, .slice none 0 0], []⟩ 8 (by kernel_rfl) (by kernel_rfl) (by kernel_rfl) (by kernel_rfl)) ?_
  intro W base args ds gs before hval hW hcnd _
  exact contract H enc W base args ds gs before hval hW
theorem over : Rows.cableGrantedRow.holds Try.pinned (OpenSpec.ofChange Rows.cableGrantedSpec) :=
  OpenClaim.holds_of_wide 5 Try.f5 rfl rfl rfl rfl rfl rfl rfl ⟨rfl, rfl, rfl, rfl, rfl⟩ rfl rfl rfl rfl rfl (by kernel_rfl) Try.func5 (by kernel_rfl)
    (of_decide_eq_true (by kernel_rfl)) (by unfold Func.isWrapper; first | (rw [if_pos (by decide +kernel)]; kernel_rfl) | (rw [if_neg (by decide +kernel)]; exact ⟨rfl, rfl⟩))
    (fun os started H enc _ => lifted os started H enc)
theorem proved : Rows.CableGrantedSaid := over
end cableGranted
end Go.Proofs.Ytafghgomhjeabaa
