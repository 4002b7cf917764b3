/- cable: the row CableShares -/
import Derived.Test.YtafghgomhjeabaaC10
import Derived.WalkKit
import Derived.ProofKit
import Derived.OpenShut
set_option linter.unusedVariables false
set_option linter.unusedSimpArgs false
namespace Go.Proofs.Ytafghgomhjeabaa
open Go Go.J Go.RowKit Go.Cab Go.ChangeShapes Go.WideShapes Go.ChangeAt
set_option linter.unusedVariables false
namespace cableShares
theorem own : ownKnob Try.prog.godebug = none := by kernel_rfl
set_option maxRecDepth 100000 in
theorem contract (H : Type) (enc : TypeId × Value → H) (W : World) (base : Nat) (args : Array Value) (ds gs : List (DataW H)) (before : List MemPlace)
    (hval : ∀ (j : Nat) t v, Try.f4.params[j]? = some t → args[j]? = some v → Value.okWide Try.prog W .any base t v)
    (hW : DataW.Whole enc Try.prog Try.f4.params.toList Rows.cableSharesSpec.vars false W args.toList ds gs before) :
    Calls Try.prog 4 args W fun e W' => ∃ v, e = .returned v ∧ Rows.cableSharesSpec.post enc Try.prog Try.f4 false true false false W args v W' := by
  have hW' := hW
  obtain ⟨p, q, hA0, hV, rfl, hfz, hnd⟩ := hW
  have hA : DataW.TrodAll enc Try.prog W 0 (fun _ => true) true Try.f4.params.toList args.toList ds p := hA0
  rw [Try.params4] at hA hval
  clear hA0
  obtain ⟨v0, vs0, d0, ds0, p0, q0, hargs, rfl, rfl, h0, r0⟩ := trodAll_cons hA
  obtain ⟨v1, vs1, d1, ds1, p1, q1, rfl, rfl, rfl, h1, r1⟩ := trodAll_cons r0
  obtain ⟨v2, vs2, d2, ds2, p2, q2, rfl, rfl, rfl, h2, r2⟩ := trodAll_cons r1
  obtain ⟨v3, vs3, d3, ds3, p3, q3, rfl, rfl, rfl, h3, r3⟩ := trodAll_cons r2
  obtain ⟨rfl, rfl, rfl⟩ := trodAll_nil r3
  obtain rfl : args = #[v0, v1, v2, v3] := by cases args; simp_all
  obtain ⟨rfl, rfl⟩ := trodVars_none hV
  obtain ⟨ca, cc, c, rfl, co, cl⟩ := open_cable (hval 0 26 v0 (by rfl) (by rfl)) h0
  obtain ⟨qa, qc, q, rfl, qo, ql, qw⟩ := open_ints (k := .i64) Try.underlying32 Try.underlying2 cells2 (hval 1 32 v1 (by rfl) (by rfl)) h1
  obtain ⟨ranksa, ranksc, ranks, rfl, rankso, ranksl, ranksw⟩ := open_ints (k := .i64) Try.underlying33 Try.underlying3 cells3 (hval 2 33 v2 (by rfl) (by rfl)) h2
  obtain ⟨ga, gc, g, rfl, go, gl, gw⟩ := open_ints (k := .i64) Try.underlying32 Try.underlying2 cells2 (hval 3 32 v3 (by rfl) (by rfl)) h3
  have walk := CableShares_calls W ca cc c qa qc q ranksa ranksc ranks ga gc g co cl qo ql rankso ranksl go gl (shares_true c q ranks g)
  refine walk.mono fun e W' hp => ?_
  obtain ⟨rfl, hE⟩ := hp
  refine ⟨_, rfl, ?_⟩
  exact lawPost (P := Try.prog) laidOut (readable_all (by kernel_rfl)) rfl (fun _ => rfl) (by rfl) (by kernel_rfl) hW' hE
set_option maxRecDepth 100000 in
theorem lifted (os : Os) (started : os.Started) (H : Type) (enc : TypeId × Value → H) :
    ReturnsInHanded {} Try.checked os 4 .any (Rows.cableSharesSpec.pre6 enc Try.prog Try.f4 Rows.cableSharesRow.domain false) (Rows.cableSharesSpec.post enc Try.prog Try.f4 false true false false) := by
  refine returnsInHanded_of_change (C := Try.checked) own started (by kernel_rfl) Try.func4
    (ChangeSpec.witness6 (enc := enc) (C := Try.checked) false ⟨#[], #[.agg #[.int .i64 0, .int .i64 0, .slice none 0 0], .slice none 0 0, .slice none 0 0, .slice none 0 0], []⟩ 8 (by kernel_rfl) (by kernel_rfl) (by kernel_rfl) (by kernel_rfl)) ?_
  intro W base args ds gs before hval hW hcnd _
  exact contract H enc W base args ds gs before hval hW
theorem over : Rows.cableSharesRow.holds Try.pinned (OpenSpec.ofChange Rows.cableSharesSpec) :=
  OpenClaim.holds_of_wide 4 Try.f4 rfl rfl rfl rfl rfl rfl rfl ⟨rfl, rfl, rfl, rfl, rfl⟩ rfl rfl rfl rfl rfl (by kernel_rfl) Try.func4 (by kernel_rfl)
    (of_decide_eq_true (by kernel_rfl)) (by unfold Func.isWrapper; first | (rw [if_pos (by decide +kernel)]; kernel_rfl) | (rw [if_neg (by decide +kernel)]; exact ⟨rfl, rfl⟩))
    (fun os started H enc _ => lifted os started H enc)
theorem proved : Rows.CableSharesSaid := over
end cableShares
end Go.Proofs.Ytafghgomhjeabaa
