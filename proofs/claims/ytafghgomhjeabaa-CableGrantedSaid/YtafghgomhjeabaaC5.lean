/- cable: the reference, by print -/
import Derived.Test.YtafghgomhjeabaaC2
import Derived.Test.YtafghgomhjeabaaJ3
import Derived.Test.YtafghgomhjeabaaProg
set_option linter.unusedVariables false
set_option linter.unusedSimpArgs false
namespace Go.Proofs
open Go Go.J Go.RowKit Go.Cab
set_option maxRecDepth 4096
set_option linter.unusedSimpArgs false
set_option linter.unusedVariables false
def _root_.Go.Cab.Span.eqb (x y : Span) : Bool := decide (x.lo = y.lo) && (decide (x.hi = y.hi) && true)
theorem eqv23' (x y : Span) : Eqv Try.prog 2 23 (.agg x.enc.toArray) (.agg y.enc.toArray) (Span.eqb x y) := eqv23 x.lo x.hi y.lo y.hi

noncomputable def F_rWithin (x : Int) (lo : Int) (hi : Int) : Option Bool := some (((decide (lo ≤ x)) && (decide (x ≤ hi))))
theorem rWithin_calls (w : World)  (x : Int)  (lo : Int)  (hi : Int)  {r : Bool} (H : F_rWithin x lo hi = some r) : Calls Try.prog 90 [Value.int .i64 x, Value.int .i64 lo, Value.int .i64 hi].toArray w (PostV (Value.bool r) w) := by
  unfold F_rWithin at H
  refine Calls.enter Try.func90 rfl rfl rfl ?_
  refine C.conseq (A' := St w no [] []) (fun _ e => by subst e; exact St.init _ _ okNil) ?_
  refine C.seq ?_
  refine C.reg ?_
  refine J.q rfl rfl rfl rfl (Q.assign .c) ?_  -- 0:0 ref.go:7
  refine J.end_ ?_
  refine C.keep (.cons 1 rfl (.cons 2 rfl (.cons 3 rfl .nil))) ?_
  refine C.seq ?_
  refine C.reg ?_
  refine J.q rfl rfl rfl rfl (Q.move (.t 0 rfl)) ?_  -- 1:0 ref.go:7
  refine J.q rfl rfl rfl rfl (Q.move (.t 2 rfl)) ?_  -- 1:1 ref.go:7
  refine J.q rfl rfl rfl rfl (Q.geq (.t 1 rfl) (.t 0 rfl)) ?_  -- 1:2 ref.go:7
  refine J.q rfl rfl rfl rfl (Q.move (.t 0 rfl)) ?_  -- 1:3 ref.go:7
  refine J.gQ (Gd.one rfl rfl rfl (.t 0 rfl)) rfl rfl rfl (.p 4 rfl .nil) (fun hg => (Q.move (.t 0 rfl))) ?_  -- 1:4 ref.go:7
  refine J.gQ (Gd.one rfl rfl rfl (.t 1 rfl)) rfl rfl rfl (.p 7 rfl .nil) (fun hg => (Q.move (.t 0 rfl))) ?_  -- 1:5 ref.go:7
  refine J.gQ (Gd.one rfl rfl rfl (.t 2 rfl)) rfl rfl rfl (.g 1 rfl (.g 0 rfl .nil)) (fun hg => (Q.leq (.t 0 rfl) (.t 1 rfl))) ?_  -- 1:6 ref.go:7
  refine J.q rfl rfl rfl rfl (Q.and_ (.t 3 rfl) (.t 0 rfl)) ?_  -- 1:7 ref.go:7
  refine J.q rfl rfl rfl rfl (Q.assign (.t 0 rfl)) ?_  -- 1:8 ref.go:7
  refine J.end_ ?_
  refine C.keep (.cons 0 rfl .nil) ?_
  refine C.ret ?_
  obtain rfl := Option.some.inj H
  refine X.rets (vs := [Value.bool ((decide (lo ≤ x)) && (decide (x ≤ hi)))]) rfl (.t 0 rfl .nil) (fun w' hA => ?_)
  exact PostV.of hA

noncomputable def F_rValid (s : Span) : Option Bool := bdg ((decide (s.lo ≤ s.hi)) == true) (F_rWithin (s.lo) ((-1073741824 : Int)) ((1073741824 : Int))) fun r2 => (bdg (((decide (s.lo ≤ s.hi)) && r2) == true) (F_rWithin (s.hi) ((-1073741824 : Int)) ((1073741824 : Int))) fun r4 => (some ((((decide (s.lo ≤ s.hi)) && r2) && r4))))
theorem rValid_calls (w : World)  (s : Span)  {r : Bool} (H : F_rValid s = some r) : Calls Try.prog 68 [Value.agg (Span.enc s).toArray].toArray w (PostV (Value.bool r) w) := by
  unfold F_rValid at H
  refine Calls.enter Try.func68 rfl rfl rfl ?_
  refine C.conseq (A' := St w no [] []) (fun _ e => by subst e; exact St.init _ _ okNil) ?_
  refine C.seq ?_
  refine C.reg ?_
  refine J.box rfl rfl rfl rfl (vs := (Span.enc s)) (.t 0 rfl) rfl ?_; intro b1 _  -- 0:0 ref.go:10
  refine J.q rfl rfl rfl rfl (Q.assign .c) ?_  -- 0:1 ref.go:10
  refine J.end_ ?_
  refine C.keep (.cons 1 rfl .nil) ?_
  refine C.seq ?_
  obtain ⟨r2, hr3, H⟩ := bdg_some H
  obtain ⟨r4, hr5, H⟩ := bdg_some H
  refine C.reg ?_
  refine J.q rfl rfl rfl rfl (Q.fa0 0 Try.underlying23 rfl Try.sizeOf2 rfl rfl (.t 0 rfl)) ?_  -- 1:0 ref.go:11
  refine J.q rfl rfl rfl rfl (Q.load (.t 0 rfl) Try.isAgg2 (ldT 1 0 rfl (.cons .nil))) ?_  -- 1:1 ref.go:11
  refine J.q rfl rfl rfl rfl (Q.fa0 1 Try.underlying23 rfl Try.sizeOf2 rfl rfl (.t 2 rfl)) ?_  -- 1:2 ref.go:11
  refine J.q rfl rfl rfl rfl (Q.load (.t 0 rfl) Try.isAgg2 (ldT 1 0 rfl (.skip (.cons .nil)))) ?_  -- 1:3 ref.go:11
  refine J.q rfl rfl rfl rfl (Q.leq (.t 2 rfl) (.t 0 rfl)) ?_  -- 1:4 ref.go:11
  refine J.q rfl rfl rfl rfl (Q.move (.t 0 rfl)) ?_  -- 1:5 ref.go:11
  refine J.gQ (Gd.one rfl rfl rfl (.t 0 rfl)) rfl rfl rfl (.p 6 rfl .nil) (fun hg => (Q.fa0 0 Try.underlying23 rfl Try.sizeOf2 rfl rfl (.t 0 rfl))) ?_  -- 1:6 ref.go:11
  refine J.gQ (Gd.one rfl rfl rfl (.t 1 rfl)) rfl rfl rfl (.g 0 rfl .nil) (fun hg => (Q.load (.t 0 rfl) Try.isAgg2 (ldT 1 0 rfl (.cons .nil)))) ?_  -- 1:7 ref.go:11
  refine J.gCall (Gd.one rfl rfl rfl (.t 2 rfl)) rfl rfl rfl (.g 0 rfl .nil) (run_static Try.call90 .f (.cons (.t 0 rfl) (.cons .c (.cons .c .nil))) rfl) (fun hg w hA => rWithin_calls w (s.lo) ((-1073741824 : Int)) ((1073741824 : Int))  (hr3 hg)) ?_  -- 1:8 ref.go:11
  refine J.q rfl rfl rfl rfl (Q.and_ (.t 3 rfl) (.t 0 rfl)) ?_  -- 1:9 ref.go:11
  refine J.q rfl rfl rfl rfl (Q.move (.t 0 rfl)) ?_  -- 1:10 ref.go:11
  refine J.gQ (Gd.one rfl rfl rfl (.t 0 rfl)) rfl rfl rfl (.p 11 rfl .nil) (fun hg => (Q.fa0 1 Try.underlying23 rfl Try.sizeOf2 rfl rfl (.t 0 rfl))) ?_  -- 1:11 ref.go:11
  refine J.gQ (Gd.one rfl rfl rfl (.t 1 rfl)) rfl rfl rfl (.g 0 rfl .nil) (fun hg => (Q.load (.t 0 rfl) Try.isAgg2 (ldT 1 0 rfl (.skip (.cons .nil))))) ?_  -- 1:12 ref.go:11
  refine J.gCall (Gd.one rfl rfl rfl (.t 2 rfl)) rfl rfl rfl (.g 0 rfl .nil) (run_static Try.call90 .f (.cons (.t 0 rfl) (.cons .c (.cons .c .nil))) rfl) (fun hg w hA => rWithin_calls w (s.hi) ((-1073741824 : Int)) ((1073741824 : Int))  (hr5 hg)) ?_  -- 1:13 ref.go:11
  refine J.q rfl rfl rfl rfl (Q.and_ (.t 3 rfl) (.t 0 rfl)) ?_  -- 1:14 ref.go:11
  refine J.q rfl rfl rfl rfl (Q.assign (.t 0 rfl)) ?_  -- 1:15 ref.go:11
  refine J.end_ ?_
  refine C.keep (.cons 0 rfl .nil) ?_
  refine C.ret ?_
  obtain rfl := Option.some.inj H
  refine X.rets (vs := [Value.bool (((decide (s.lo ≤ s.hi)) && r2) && r4)]) rfl (.t 0 rfl .nil) (fun w' hA => ?_)
  exact PostV.of hA

noncomputable def F_rCheck1 (s : Span) : Option Int := bd (F_rValid (s)) fun r2 => (sel (!r2) (some ((2 : Int))) (some ((0 : Int))))
theorem rCheck1_calls (w : World)  (s : Span)  {r : Int} (H : F_rCheck1 s = some r) : Calls Try.prog 54 [Value.agg (Span.enc s).toArray].toArray w (PostV (Value.int .i64 r) w) := by
  unfold F_rCheck1 at H
  refine Calls.enter Try.func54 rfl rfl rfl ?_
  refine C.conseq (A' := St w no [] []) (fun _ e => by subst e; exact St.init _ _ okNil) ?_
  refine C.seq ?_
  refine C.reg ?_
  refine J.box rfl rfl rfl rfl (vs := (Span.enc s)) (.t 0 rfl) rfl ?_; intro b1 _  -- 0:0 ref.go:15
  refine J.q rfl rfl rfl rfl (Q.assign .c) ?_  -- 0:1 ref.go:15
  refine J.end_ ?_
  refine C.keep (.cons 1 rfl .nil) ?_
  refine C.seq ?_
  refine C.seq ?_
  obtain ⟨r2, hr3, H⟩ := bd_some H
  refine C.reg ?_
  refine J.q rfl rfl rfl rfl (Q.loadsV (.t 0 rfl) ⟨Try.isAgg23, Try.sizeOf23⟩ (ldT 2 0 rfl (.cons (.cons .nil))) rfl) ?_  -- 1:0 ref.go:16
  refine J.callV rfl rfl rfl rfl (run_static Try.call68 .f (.cons (.t 0 rfl) .nil) rfl) (fun w hA => rValid_calls w (s)  hr3) ?_  -- 1:1 ref.go:16
  refine J.q rfl rfl rfl rfl (Q.not_ (.t 0 rfl)) ?_  -- 1:2 ref.go:16
  refine J.end_ ?_
  refine C.keep (.cons 0 rfl .nil) ?_
  refine C.cond (.t 0 rfl) (fun c4 => ?_) (fun c4 => ?_)
  ·
    replace H := sel_t c4 H
    refine C.seq ?_
    refine C.reg ?_
    refine J.q rfl rfl rfl rfl (Q.assign .c) ?_  -- 2:0 ref.go:17
    refine J.end_ ?_
    refine C.keep (.cons 0 rfl .nil) ?_
    refine C.ret ?_
    refine X.thenRet ?_
    obtain rfl := Option.some.inj H
    refine X.rets (vs := [Value.int .i64 (2 : Int)]) rfl (.t 0 rfl .nil) (fun w' hA => ?_)
    exact PostV.of hA
  ·
    replace H := sel_f c4 H
    refine C.skip ?_
    refine X.go ?_
    refine C.keep .nil ?_
    refine C.seq ?_
    refine C.reg ?_
    refine J.q rfl rfl rfl rfl (Q.assign .c) ?_  -- 3:0 ref.go:19
    refine J.end_ ?_
    refine C.ret ?_
    obtain rfl := Option.some.inj H
    refine X.rets (vs := [Value.int .i64 (0 : Int)]) rfl (.t 0 rfl .nil) (fun w' hA => ?_)
    exact PostV.of hA

noncomputable def F_rspan (s : Span) (lo : Int) (hi : Int) : Option Bool := bd (F_rCheck1 (s)) fun r2 => (some ((((decide (r2 = (0 : Int))) && (decide (lo ≤ s.lo))) && (decide (s.hi ≤ hi)))))
theorem rspan_calls (w : World)  (s : Span)  (lo : Int)  (hi : Int)  {r : Bool} (H : F_rspan s lo hi = some r) : Calls Try.prog 33 [Value.agg (Span.enc s).toArray, Value.int .i64 lo, Value.int .i64 hi].toArray w (PostV (Value.bool r) w) := by
  unfold F_rspan at H
  refine Calls.enter Try.func33 rfl rfl rfl ?_
  refine C.conseq (A' := St w no [] []) (fun _ e => by subst e; exact St.init _ _ okNil) ?_
  refine C.seq ?_
  refine C.reg ?_
  refine J.box rfl rfl rfl rfl (vs := (Span.enc s)) (.t 0 rfl) rfl ?_; intro b1 _  -- 0:0 ref.go:10
  refine J.q rfl rfl rfl rfl (Q.assign .c) ?_  -- 0:1 ref.go:10
  refine J.end_ ?_
  refine C.keep (.cons 1 rfl (.cons 3 rfl (.cons 4 rfl .nil))) ?_
  refine C.seq ?_
  obtain ⟨r2, hr3, H⟩ := bd_some H
  refine C.reg ?_
  refine J.q rfl rfl rfl rfl (Q.loadsV (.t 0 rfl) ⟨Try.isAgg23, Try.sizeOf23⟩ (ldT 2 0 rfl (.cons (.cons .nil))) rfl) ?_  -- 1:0 ref.go:11
  refine J.callV rfl rfl rfl rfl (run_static Try.call54 .f (.cons (.t 0 rfl) .nil) rfl) (fun w hA => rCheck1_calls w (s)  hr3) ?_  -- 1:1 ref.go:11
  refine J.q rfl rfl rfl rfl (Q.eql (.t 0 rfl) .c) ?_  -- 1:2 ref.go:11
  refine J.q rfl rfl rfl rfl (Q.move (.t 0 rfl)) ?_  -- 1:3 ref.go:11
  refine J.gQ (Gd.one rfl rfl rfl (.t 0 rfl)) rfl rfl rfl (.p 4 rfl .nil) (fun hg => (Q.fa0 0 Try.underlying23 rfl Try.sizeOf2 rfl rfl (.t 0 rfl))) ?_  -- 1:4 ref.go:11
  refine J.gQ (Gd.one rfl rfl rfl (.t 1 rfl)) rfl rfl rfl (.g 0 rfl .nil) (fun hg => (Q.load (.t 0 rfl) Try.isAgg2 (ldT 1 0 rfl (.cons .nil)))) ?_  -- 1:5 ref.go:11
  refine J.gQ (Gd.one rfl rfl rfl (.t 2 rfl)) rfl rfl rfl (.p 7 rfl .nil) (fun hg => (Q.move (.t 0 rfl))) ?_  -- 1:6 ref.go:11
  refine J.gQ (Gd.one rfl rfl rfl (.t 3 rfl)) rfl rfl rfl (.g 1 rfl (.g 0 rfl .nil)) (fun hg => (Q.geq (.t 0 rfl) (.t 1 rfl))) ?_  -- 1:7 ref.go:11
  refine J.q rfl rfl rfl rfl (Q.and_ (.t 4 rfl) (.t 0 rfl)) ?_  -- 1:8 ref.go:11
  refine J.q rfl rfl rfl rfl (Q.move (.t 0 rfl)) ?_  -- 1:9 ref.go:11
  refine J.gQ (Gd.one rfl rfl rfl (.t 0 rfl)) rfl rfl rfl (.p 10 rfl .nil) (fun hg => (Q.fa0 1 Try.underlying23 rfl Try.sizeOf2 rfl rfl (.t 0 rfl))) ?_  -- 1:10 ref.go:11
  refine J.gQ (Gd.one rfl rfl rfl (.t 1 rfl)) rfl rfl rfl (.g 0 rfl .nil) (fun hg => (Q.load (.t 0 rfl) Try.isAgg2 (ldT 1 0 rfl (.skip (.cons .nil))))) ?_  -- 1:11 ref.go:11
  refine J.gQ (Gd.one rfl rfl rfl (.t 2 rfl)) rfl rfl rfl (.p 14 rfl .nil) (fun hg => (Q.move (.t 0 rfl))) ?_  -- 1:12 ref.go:11
  refine J.gQ (Gd.one rfl rfl rfl (.t 3 rfl)) rfl rfl rfl (.g 1 rfl (.g 0 rfl .nil)) (fun hg => (Q.leq (.t 0 rfl) (.t 1 rfl))) ?_  -- 1:13 ref.go:11
  refine J.q rfl rfl rfl rfl (Q.and_ (.t 4 rfl) (.t 0 rfl)) ?_  -- 1:14 ref.go:11
  refine J.q rfl rfl rfl rfl (Q.assign (.t 0 rfl)) ?_  -- 1:15 ref.go:11
  refine J.end_ ?_
  refine C.keep (.cons 0 rfl .nil) ?_
  refine C.ret ?_
  obtain rfl := Option.some.inj H
  refine X.rets (vs := [Value.bool (((decide (r2 = (0 : Int))) && (decide (lo ≤ s.lo))) && (decide (s.hi ≤ hi)))]) rfl (.t 0 rfl .nil) (fun w' hA => ?_)
  exact PostV.of hA

noncomputable def F_rnode (n : Nd) (k : Int) : Option Bool := bd (sel (decide (k = (0 : Int))) (sel (((decide (n.parent ≠ (-1 : Int))) || (!(Span.eqb n.ohms (⟨(0 : Int), (0 : Int)⟩ : Span)))) || (decide (n.delay ≠ (-1 : Int)))) (some (.inr (false))) (some (.inl ()))) (sel ((decide (n.parent < (0 : Int))) || (decide (k ≤ n.parent))) (some (.inr (false))) (some (.inl ())))) (fun t => thn t (fun () => bd (F_rspan (n.ohms) ((0 : Int)) ((16777216 : Int))) fun r11 => (bdg (((r11 && (decide ((0 : Int) ≤ n.limit))) && (decide (n.limit ≤ (3932160 : Int)))) == true) (F_rspan (n.load) ((0 : Int)) ((65536 : Int))) fun r13 => (some ((((((((r11 && (decide ((0 : Int) ≤ n.limit))) && (decide (n.limit ≤ (3932160 : Int)))) && r13) && (decide ((0 : Int) ≤ n.least))) && (decide (n.least ≤ (67108864 : Int)))) && (decide ((-1 : Int) ≤ n.delay))) && (decide (n.delay ≤ (1048576 : Int)))))))))
theorem rnode_calls (w : World)  (n : Nd)  (k : Int)  {r : Bool} (H : F_rnode n k = some r) : Calls Try.prog 34 [Value.agg (Nd.enc n).toArray, Value.int .i64 k].toArray w (PostV (Value.bool r) w) := by
  unfold F_rnode at H
  refine Calls.enter Try.func34 rfl rfl rfl ?_
  refine C.conseq (A' := St w no [] []) (fun _ e => by subst e; exact St.init _ _ okNil) ?_
  refine C.seq ?_
  refine C.reg ?_
  refine J.box rfl rfl rfl rfl (vs := (Nd.enc n)) (.t 0 rfl) rfl ?_; intro b1 _  -- 0:0 ref.go:15
  refine J.q rfl rfl rfl rfl (Q.assign .c) ?_  -- 0:1 ref.go:15
  refine J.end_ ?_
  refine C.keep (.cons 1 rfl (.cons 3 rfl .nil)) ?_
  refine C.seq ?_
  refine C.seq ?_
  refine C.reg ?_
  refine J.q rfl rfl rfl rfl (Q.move (.t 1 rfl)) ?_  -- 1:0 ref.go:16
  refine J.q rfl rfl rfl rfl (Q.eql (.t 0 rfl) .c) ?_  -- 1:1 ref.go:16
  refine J.end_ ?_
  refine C.keep (.cons 0 rfl (.cons 2 rfl (.cons 3 rfl .nil))) ?_
  obtain ⟨t5, ht6, H⟩ := bd_some H
  refine C.cutq_0  (G := { g : Unit × Unit // t5 = Sum.inl g.1 }) (.cons 1 rfl .nil) (fun g => St w no [bx b1 40 (Nd.enc n)] []) ?_ ?_
  ·
    refine C.cond (.t 0 rfl) (fun c7 => ?_) (fun c7 => ?_)
    ·
      replace ht6 := sel_t c7 ht6
      refine C.seq ?_
      refine C.reg ?_
      refine J.q rfl rfl rfl rfl (Q.fa0 0 Try.underlying40 rfl Try.sizeOf3 rfl rfl (.t 1 rfl)) ?_  -- 2:0 ref.go:17
      refine J.q rfl rfl rfl rfl (Q.load (.t 0 rfl) Try.isAgg3 (ldT 1 0 rfl (.cons .nil))) ?_  -- 2:1 ref.go:17
      refine J.q rfl rfl rfl rfl (Q.neq (.t 0 rfl) .c) ?_  -- 2:2 ref.go:17
      refine J.q rfl rfl rfl rfl (Q.move (.t 0 rfl)) ?_  -- 2:3 ref.go:17
      refine J.gQ (Gd.one rfl rfl rfl (.t 0 rfl)) rfl rfl rfl (.p 5 rfl .nil) (fun hg => (Q.fa0 1 Try.underlying40 rfl Try.sizeOf23 rfl rfl (.t 0 rfl))) ?_  -- 2:4 ref.go:17
      refine J.gQ (Gd.one rfl rfl rfl (.t 1 rfl)) rfl rfl rfl (.g 0 rfl .nil) (fun hg => (Q.loadsV (.t 0 rfl) ⟨Try.isAgg23, Try.sizeOf23⟩ (ldT 2 0 rfl (.skip (.cons (.cons .nil)))) rfl)) ?_  -- 2:5 ref.go:17
      refine J.gQ (Gd.one rfl rfl rfl (.t 2 rfl)) rfl rfl rfl .nil (fun hg => (Q.buildB stb23 (ps := []) .nil rfl .nil)) ?_  -- 2:6 ref.go:17
      refine J.gQ (Gd.one rfl rfl rfl (.t 3 rfl)) rfl rfl rfl (.g 1 rfl (.g 0 rfl .nil)) (fun hg => (Q.neS (n := 2) (.t 0 rfl) (.t 1 rfl) guard23 (by decide) (eqv23' (n.ohms) ((⟨(0 : Int), (0 : Int)⟩ : Span))))) ?_  -- 2:7 ref.go:17
      refine J.q rfl rfl rfl rfl (Q.or_ (.t 4 rfl) (.t 0 rfl)) ?_  -- 2:8 ref.go:17
      refine J.q rfl rfl rfl rfl (Q.move (.t 0 rfl)) ?_  -- 2:9 ref.go:17
      refine J.gQ (Gd.one rfl rfl rfl (.t 0 rfl)) rfl rfl rfl (.p 11 rfl .nil) (fun hg => (Q.fa0 7 Try.underlying40 rfl Try.sizeOf2 rfl rfl (.t 0 rfl))) ?_  -- 2:10 ref.go:17
      refine J.gQ (Gd.one rfl rfl rfl (.t 1 rfl)) rfl rfl rfl (.g 0 rfl .nil) (fun hg => (Q.load (.t 0 rfl) Try.isAgg2 (ldT 1 0 rfl (.skip (.skip (.skip (.skip (.skip (.skip (.skip (.cons .nil))))))))))) ?_  -- 2:11 ref.go:17
      refine J.gQ (Gd.one rfl rfl rfl (.t 2 rfl)) rfl rfl rfl (.g 0 rfl .nil) (fun hg => (Q.neq (.t 0 rfl) .c)) ?_  -- 2:12 ref.go:17
      refine J.q rfl rfl rfl rfl (Q.or_ (.t 3 rfl) (.t 0 rfl)) ?_  -- 2:13 ref.go:17
      refine J.end_ ?_
      refine C.keep (.cons 0 rfl (.cons 15 rfl .nil)) ?_
      refine C.cond (.t 0 rfl) (fun c8 => ?_) (fun c8 => ?_)
      ·
        replace ht6 := sel_t c8 ht6
        refine C.seq ?_
        refine C.reg ?_
        refine J.q rfl rfl rfl rfl (Q.assign .c) ?_  -- 3:0 ref.go:18
        refine J.end_ ?_
        refine C.keep (.cons 0 rfl .nil) ?_
        refine C.ret ?_
        refine X.thenRet ?_
        obtain rfl := Option.some.inj ht6
        try dsimp only [thn] at H
        obtain rfl := Option.some.inj H
        refine X.rets (vs := [Value.bool false]) rfl (.t 0 rfl .nil) (fun w' hA => ?_)
        exact PostV.of hA
      ·
        replace ht6 := sel_f c8 ht6
        refine C.skip ?_
        obtain rfl := Option.some.inj ht6
        exact X.meet ⟨((), ()), rfl⟩ (.cons 1 rfl .nil) (fun _ h => h)
    ·
      replace ht6 := sel_f c7 ht6
      refine C.seq ?_
      refine C.reg ?_
      refine J.q rfl rfl rfl rfl (Q.fa0 0 Try.underlying40 rfl Try.sizeOf3 rfl rfl (.t 1 rfl)) ?_  -- 4:0 ref.go:20
      refine J.q rfl rfl rfl rfl (Q.load (.t 0 rfl) Try.isAgg3 (ldT 1 0 rfl (.cons .nil))) ?_  -- 4:1 ref.go:20
      refine J.q rfl rfl rfl rfl (Q.lss (.t 0 rfl) .c) ?_  -- 4:2 ref.go:20
      refine J.q rfl rfl rfl rfl (Q.move (.t 0 rfl)) ?_  -- 4:3 ref.go:20
      refine J.gQ (Gd.one rfl rfl rfl (.t 0 rfl)) rfl rfl rfl (.p 5 rfl .nil) (fun hg => (Q.fa0 0 Try.underlying40 rfl Try.sizeOf3 rfl rfl (.t 0 rfl))) ?_  -- 4:4 ref.go:20
      refine J.gQ (Gd.one rfl rfl rfl (.t 1 rfl)) rfl rfl rfl (.g 0 rfl .nil) (fun hg => (Q.load (.t 0 rfl) Try.isAgg3 (ldT 1 0 rfl (.cons .nil)))) ?_  -- 4:5 ref.go:20
      refine J.gQ (Gd.one rfl rfl rfl (.t 2 rfl)) rfl rfl rfl (.p 8 rfl .nil) (fun hg => (Q.move (.t 0 rfl))) ?_  -- 4:6 ref.go:20
      refine J.gQ (Gd.one rfl rfl rfl (.t 3 rfl)) rfl rfl rfl (.g 1 rfl (.g 0 rfl .nil)) (fun hg => (Q.geq (.t 0 rfl) (.t 1 rfl))) ?_  -- 4:7 ref.go:20
      refine J.q rfl rfl rfl rfl (Q.or_ (.t 4 rfl) (.t 0 rfl)) ?_  -- 4:8 ref.go:20
      refine J.end_ ?_
      refine C.keep (.cons 0 rfl (.cons 10 rfl .nil)) ?_
      refine C.cond (.t 0 rfl) (fun c9 => ?_) (fun c9 => ?_)
      ·
        replace ht6 := sel_t c9 ht6
        refine C.seq ?_
        refine C.reg ?_
        refine J.q rfl rfl rfl rfl (Q.assign .c) ?_  -- 5:0 ref.go:21
        refine J.end_ ?_
        refine C.keep (.cons 0 rfl .nil) ?_
        refine C.ret ?_
        refine X.thenRet ?_
        obtain rfl := Option.some.inj ht6
        try dsimp only [thn] at H
        obtain rfl := Option.some.inj H
        refine X.rets (vs := [Value.bool false]) rfl (.t 0 rfl .nil) (fun w' hA => ?_)
        exact PostV.of hA
      ·
        replace ht6 := sel_f c9 ht6
        refine C.skip ?_
        obtain rfl := Option.some.inj ht6
        exact X.meet ⟨((), ()), rfl⟩ (.cons 1 rfl .nil) (fun _ h => h)
  ·
    rintro ⟨⟨⟨⟩, ⟨⟩⟩, e10⟩
    dsimp only at e10 ⊢
    have e10' := e10.symm
    subst e10'
    try dsimp only [thn] at H
    refine C.seq ?_
    obtain ⟨r11, hr12, H⟩ := bd_some H
    obtain ⟨r13, hr14, H⟩ := bdg_some H
    refine C.reg ?_
    refine J.q rfl rfl rfl rfl (Q.fa0 1 Try.underlying40 rfl Try.sizeOf23 rfl rfl (.t 0 rfl)) ?_  -- 6:0 ref.go:23
    refine J.q rfl rfl rfl rfl (Q.loadsV (.t 0 rfl) ⟨Try.isAgg23, Try.sizeOf23⟩ (ldT 2 0 rfl (.skip (.cons (.cons .nil)))) rfl) ?_  -- 6:1 ref.go:23
    refine J.callV rfl rfl rfl rfl (run_static Try.call33 .f (.cons (.t 0 rfl) (.cons .c (.cons .c .nil))) rfl) (fun w hA => rspan_calls w (n.ohms) ((0 : Int)) ((16777216 : Int))  hr12) ?_  -- 6:2 ref.go:23
    refine J.q rfl rfl rfl rfl (Q.move (.t 0 rfl)) ?_  -- 6:3 ref.go:23
    refine J.gQ (Gd.one rfl rfl rfl (.t 0 rfl)) rfl rfl rfl (.p 4 rfl .nil) (fun hg => (Q.fa0 3 Try.underlying40 rfl Try.sizeOf2 rfl rfl (.t 0 rfl))) ?_  -- 6:4 ref.go:23
    refine J.gQ (Gd.one rfl rfl rfl (.t 1 rfl)) rfl rfl rfl (.g 0 rfl .nil) (fun hg => (Q.load (.t 0 rfl) Try.isAgg2 (ldT 1 0 rfl (.skip (.skip (.skip (.cons .nil))))))) ?_  -- 6:5 ref.go:23
    refine J.gQ (Gd.one rfl rfl rfl (.t 2 rfl)) rfl rfl rfl (.g 0 rfl .nil) (fun hg => (Q.geq (.t 0 rfl) .c)) ?_  -- 6:6 ref.go:23
    refine J.q rfl rfl rfl rfl (Q.and_ (.t 3 rfl) (.t 0 rfl)) ?_  -- 6:7 ref.go:23
    refine J.q rfl rfl rfl rfl (Q.move (.t 0 rfl)) ?_  -- 6:8 ref.go:23
    refine J.gQ (Gd.one rfl rfl rfl (.t 0 rfl)) rfl rfl rfl (.p 9 rfl .nil) (fun hg => (Q.fa0 3 Try.underlying40 rfl Try.sizeOf2 rfl rfl (.t 0 rfl))) ?_  -- 6:9 ref.go:23
    refine J.gQ (Gd.one rfl rfl rfl (.t 1 rfl)) rfl rfl rfl (.g 0 rfl .nil) (fun hg => (Q.load (.t 0 rfl) Try.isAgg2 (ldT 1 0 rfl (.skip (.skip (.skip (.cons .nil))))))) ?_  -- 6:10 ref.go:23
    refine J.gQ (Gd.one rfl rfl rfl (.t 2 rfl)) rfl rfl rfl (.g 0 rfl .nil) (fun hg => (Q.leq (.t 0 rfl) .c)) ?_  -- 6:11 ref.go:23
    refine J.q rfl rfl rfl rfl (Q.and_ (.t 3 rfl) (.t 0 rfl)) ?_  -- 6:12 ref.go:23
    refine J.q rfl rfl rfl rfl (Q.move (.t 0 rfl)) ?_  -- 6:13 ref.go:23
    refine J.gQ (Gd.one rfl rfl rfl (.t 0 rfl)) rfl rfl rfl (.p 14 rfl .nil) (fun hg => (Q.fa0 4 Try.underlying40 rfl Try.sizeOf23 rfl rfl (.t 0 rfl))) ?_  -- 6:14 ref.go:23
    refine J.gQ (Gd.one rfl rfl rfl (.t 1 rfl)) rfl rfl rfl (.g 0 rfl .nil) (fun hg => (Q.loadsV (.t 0 rfl) ⟨Try.isAgg23, Try.sizeOf23⟩ (ldT 2 0 rfl (.skip (.skip (.skip (.skip (.cons (.cons .nil))))))) rfl)) ?_  -- 6:15 ref.go:23
    refine J.gCall (Gd.one rfl rfl rfl (.t 2 rfl)) rfl rfl rfl (.g 0 rfl .nil) (run_static Try.call33 .f (.cons (.t 0 rfl) (.cons .c (.cons .c .nil))) rfl) (fun hg w hA => rspan_calls w (n.load) ((0 : Int)) ((65536 : Int))  (hr14 hg)) ?_  -- 6:16 ref.go:23
    refine J.q rfl rfl rfl rfl (Q.and_ (.t 3 rfl) (.t 0 rfl)) ?_  -- 6:17 ref.go:23
    refine J.q rfl rfl rfl rfl (Q.move (.t 0 rfl)) ?_  -- 6:18 ref.go:23
    refine J.gQ (Gd.one rfl rfl rfl (.t 0 rfl)) rfl rfl rfl (.p 19 rfl .nil) (fun hg => (Q.fa0 6 Try.underlying40 rfl Try.sizeOf2 rfl rfl (.t 0 rfl))) ?_  -- 6:19 ref.go:23
    refine J.gQ (Gd.one rfl rfl rfl (.t 1 rfl)) rfl rfl rfl (.g 0 rfl .nil) (fun hg => (Q.load (.t 0 rfl) Try.isAgg2 (ldT 1 0 rfl (.skip (.skip (.skip (.skip (.skip (.skip (.cons .nil)))))))))) ?_  -- 6:20 ref.go:23
    refine J.gQ (Gd.one rfl rfl rfl (.t 2 rfl)) rfl rfl rfl (.g 0 rfl .nil) (fun hg => (Q.geq (.t 0 rfl) .c)) ?_  -- 6:21 ref.go:23
    refine J.q rfl rfl rfl rfl (Q.and_ (.t 3 rfl) (.t 0 rfl)) ?_  -- 6:22 ref.go:23
    refine J.q rfl rfl rfl rfl (Q.move (.t 0 rfl)) ?_  -- 6:23 ref.go:23
    refine J.gQ (Gd.one rfl rfl rfl (.t 0 rfl)) rfl rfl rfl (.p 24 rfl .nil) (fun hg => (Q.fa0 6 Try.underlying40 rfl Try.sizeOf2 rfl rfl (.t 0 rfl))) ?_  -- 6:24 ref.go:23
    refine J.gQ (Gd.one rfl rfl rfl (.t 1 rfl)) rfl rfl rfl (.g 0 rfl .nil) (fun hg => (Q.load (.t 0 rfl) Try.isAgg2 (ldT 1 0 rfl (.skip (.skip (.skip (.skip (.skip (.skip (.cons .nil)))))))))) ?_  -- 6:25 ref.go:23
    refine J.gQ (Gd.one rfl rfl rfl (.t 2 rfl)) rfl rfl rfl (.g 0 rfl .nil) (fun hg => (Q.leq (.t 0 rfl) .c)) ?_  -- 6:26 ref.go:23
    refine J.q rfl rfl rfl rfl (Q.and_ (.t 3 rfl) (.t 0 rfl)) ?_  -- 6:27 ref.go:23
    refine J.q rfl rfl rfl rfl (Q.move (.t 0 rfl)) ?_  -- 6:28 ref.go:23
    refine J.gQ (Gd.one rfl rfl rfl (.t 0 rfl)) rfl rfl rfl (.p 29 rfl .nil) (fun hg => (Q.fa0 7 Try.underlying40 rfl Try.sizeOf2 rfl rfl (.t 0 rfl))) ?_  -- 6:29 ref.go:23
    refine J.gQ (Gd.one rfl rfl rfl (.t 1 rfl)) rfl rfl rfl (.g 0 rfl .nil) (fun hg => (Q.load (.t 0 rfl) Try.isAgg2 (ldT 1 0 rfl (.skip (.skip (.skip (.skip (.skip (.skip (.skip (.cons .nil))))))))))) ?_  -- 6:30 ref.go:23
    refine J.gQ (Gd.one rfl rfl rfl (.t 2 rfl)) rfl rfl rfl (.g 0 rfl .nil) (fun hg => (Q.geq (.t 0 rfl) .c)) ?_  -- 6:31 ref.go:23
    refine J.q rfl rfl rfl rfl (Q.and_ (.t 3 rfl) (.t 0 rfl)) ?_  -- 6:32 ref.go:23
    refine J.q rfl rfl rfl rfl (Q.move (.t 0 rfl)) ?_  -- 6:33 ref.go:23
    refine J.gQ (Gd.one rfl rfl rfl (.t 0 rfl)) rfl rfl rfl (.p 34 rfl .nil) (fun hg => (Q.fa0 7 Try.underlying40 rfl Try.sizeOf2 rfl rfl (.t 0 rfl))) ?_  -- 6:34 ref.go:23
    refine J.gQ (Gd.one rfl rfl rfl (.t 1 rfl)) rfl rfl rfl (.g 0 rfl .nil) (fun hg => (Q.load (.t 0 rfl) Try.isAgg2 (ldT 1 0 rfl (.skip (.skip (.skip (.skip (.skip (.skip (.skip (.cons .nil))))))))))) ?_  -- 6:35 ref.go:23
    refine J.gQ (Gd.one rfl rfl rfl (.t 2 rfl)) rfl rfl rfl (.g 0 rfl .nil) (fun hg => (Q.leq (.t 0 rfl) .c)) ?_  -- 6:36 ref.go:23
    refine J.q rfl rfl rfl rfl (Q.and_ (.t 3 rfl) (.t 0 rfl)) ?_  -- 6:37 ref.go:23
    refine J.q rfl rfl rfl rfl (Q.assign (.t 0 rfl)) ?_  -- 6:38 ref.go:23
    refine J.end_ ?_
    refine C.keep (.cons 0 rfl .nil) ?_
    refine C.ret ?_
    obtain rfl := Option.some.inj H
    refine X.rets (vs := [Value.bool (((((((r11 && (decide ((0 : Int) ≤ n.limit))) && (decide (n.limit ≤ (3932160 : Int)))) && r13) && (decide ((0 : Int) ≤ n.least))) && (decide (n.least ≤ (67108864 : Int)))) && (decide ((-1 : Int) ≤ n.delay))) && (decide (n.delay ≤ (1048576 : Int))))]) rfl (.t 0 rfl .nil) (fun w' hA => ?_)
    exact PostV.of hA

noncomputable def F_rCheck (c : Cable) : Option Int := sel (decide ((60 : Int) < (c.nodes.length : Int))) (some ((6 : Int))) (bdg ((decide ((c.nodes.length : Int) = (0 : Int))) == false) (F_rspan (c.supply) ((0 : Int)) ((67108864 : Int))) fun r3 => (sel ((decide ((c.nodes.length : Int) = (0 : Int))) || (!r3)) (some ((2 : Int))) (bd (iter (σ := Int) (τ := (Int ⊕ Int)) (fun v14 => sel (decide (v14 < (c.nodes.length : Int))) (ix c.nodes v14 fun x21 => (bd (F_rnode (x21) (v14)) fun r24 => (sel (!r24) (some (.inr (.inr ((2 : Int))))) (ck (I64ok (v14 + (1 : Int))) (some (.inl (v14 + (1 : Int)))))))) (some (.inr (.inl v14)))) (0 : Int)) (fun t => thn t (fun v14 => some ((0 : Int)))))))
theorem rCheck_calls (w : World) (ca : Option Addr) (cc : Nat) (c : Cable) (co : (rowO ca 8 Nd.enc c.nodes).ok w) (cl : c.nodes.length ≤ cc) {r : Int} (H : F_rCheck c = some r) : Calls Try.prog 18 [Value.agg (Cable.cells c ca cc).toArray].toArray w (PostV (Value.int .i64 r) w) := by
  unfold F_rCheck at H
  refine Calls.enter Try.func18 rfl rfl rfl ?_
  refine C.conseq (A' := St w no [] [rowO ca 8 Nd.enc c.nodes]) (fun _ e => by subst e; exact St.init _ _ (okCons co okNil)) ?_
  refine C.seq ?_
  refine C.reg ?_
  refine J.box rfl rfl rfl rfl (vs := (Cable.cells c ca cc)) (.t 0 rfl) rfl ?_; intro b1 _  -- 0:0 ref.go:27
  refine J.q rfl rfl rfl rfl (Q.assign .c) ?_  -- 0:1 ref.go:27
  refine J.end_ ?_
  refine C.keep (.cons 1 rfl .nil) ?_
  refine C.seq ?_
  refine C.seq ?_
  refine C.reg ?_
  refine J.q rfl rfl rfl rfl (Q.fa0 2 Try.underlying26 rfl Try.sizeOf24 rfl rfl (.t 0 rfl)) ?_  -- 1:0 ref.go:28
  refine J.q rfl rfl rfl rfl (Q.load (.t 0 rfl) Try.isAgg24 (ldT 1 0 rfl (.skip (.skip (.cons .nil))))) ?_  -- 1:1 ref.go:28
  refine J.q rfl rfl rfl rfl (Q.len Try.underlying24 (.t 0 rfl)) ?_  -- 1:2 ref.go:28
  refine J.q rfl rfl rfl rfl (Q.gtr (.t 0 rfl) .c) ?_  -- 1:3 ref.go:28
  refine J.end_ ?_
  refine C.keep (.cons 0 rfl (.cons 4 rfl .nil)) ?_
  refine C.cond (.t 0 rfl) (fun c2 => ?_) (fun c2 => ?_)
  ·
    replace H := sel_t c2 H
    refine C.seq ?_
    refine C.reg ?_
    refine J.q rfl rfl rfl rfl (Q.assign .c) ?_  -- 2:0 ref.go:29
    refine J.end_ ?_
    refine C.keep (.cons 0 rfl .nil) ?_
    refine C.ret ?_
    refine X.thenRet ?_
    obtain rfl := Option.some.inj H
    refine X.rets (vs := [Value.int .i64 (6 : Int)]) rfl (.t 0 rfl .nil) (fun w' hA => ?_)
    exact PostV.of hA
  ·
    replace H := sel_f c2 H
    refine C.skip ?_
    refine X.go ?_
    refine C.keep (.cons 1 rfl .nil) ?_
    refine C.seq ?_
    refine C.seq ?_
    obtain ⟨r3, hr4, H⟩ := bdg_some H
    refine C.reg ?_
    refine J.q rfl rfl rfl rfl (Q.fa0 2 Try.underlying26 rfl Try.sizeOf24 rfl rfl (.t 0 rfl)) ?_  -- 3:0 ref.go:31
    refine J.q rfl rfl rfl rfl (Q.load (.t 0 rfl) Try.isAgg24 (ldT 1 0 rfl (.skip (.skip (.cons .nil))))) ?_  -- 3:1 ref.go:31
    refine J.q rfl rfl rfl rfl (Q.len Try.underlying24 (.t 0 rfl)) ?_  -- 3:2 ref.go:31
    refine J.q rfl rfl rfl rfl (Q.eql (.t 0 rfl) .c) ?_  -- 3:3 ref.go:31
    refine J.q rfl rfl rfl rfl (Q.move (.t 0 rfl)) ?_  -- 3:4 ref.go:31
    refine J.gQ (Gd.one rfl rfl rfl (.t 0 rfl)) rfl rfl rfl (.p 5 rfl .nil) (fun hg => (Q.fa0 0 Try.underlying26 rfl Try.sizeOf23 rfl rfl (.t 0 rfl))) ?_  -- 3:5 ref.go:31
    refine J.gQ (Gd.one rfl rfl rfl (.t 1 rfl)) rfl rfl rfl (.g 0 rfl .nil) (fun hg => (Q.loadsV (.t 0 rfl) ⟨Try.isAgg23, Try.sizeOf23⟩ (ldT 2 0 rfl (.cons (.cons .nil))) rfl)) ?_  -- 3:6 ref.go:31
    refine J.gCall (Gd.one rfl rfl rfl (.t 2 rfl)) rfl rfl rfl (.g 0 rfl .nil) (run_static Try.call33 .f (.cons (.t 0 rfl) (.cons .c (.cons .c .nil))) rfl) (fun hg w hA => rspan_calls w (c.supply) ((0 : Int)) ((67108864 : Int))  (hr4 hg)) ?_  -- 3:7 ref.go:31
    refine J.gQ (Gd.one rfl rfl rfl (.t 3 rfl)) rfl rfl rfl (.g 0 rfl .nil) (fun hg => (Q.not_ (.t 0 rfl))) ?_  -- 3:8 ref.go:31
    refine J.q rfl rfl rfl rfl (Q.or_ (.t 4 rfl) (.t 0 rfl)) ?_  -- 3:9 ref.go:31
    refine J.end_ ?_
    refine C.keep (.cons 0 rfl (.cons 10 rfl .nil)) ?_
    refine C.cond (.t 0 rfl) (fun c5 => ?_) (fun c5 => ?_)
    ·
      replace H := sel_t c5 H
      refine C.seq ?_
      refine C.reg ?_
      refine J.q rfl rfl rfl rfl (Q.assign .c) ?_  -- 4:0 ref.go:32
      refine J.end_ ?_
      refine C.keep (.cons 0 rfl .nil) ?_
      refine C.ret ?_
      refine X.thenRet ?_
      obtain rfl := Option.some.inj H
      refine X.rets (vs := [Value.int .i64 (2 : Int)]) rfl (.t 0 rfl .nil) (fun w' hA => ?_)
      exact PostV.of hA
    ·
      replace H := sel_f c5 H
      refine C.skip ?_
      refine X.go ?_
      refine C.keep (.cons 1 rfl .nil) ?_
      refine C.seq ?_
      refine C.seq ?_
      refine C.reg ?_
      refine J.q rfl rfl rfl rfl (Q.assign .c) ?_  -- 5:0 ref.go:34
      refine J.end_ ?_
      refine C.block ?_
      obtain ⟨t15, ht16, H⟩ := bd_some H
      refine C.it_1 (fun s r => Value.int .i64 s) (fun s r => St w no [bx b1 26 (Cable.cells c ca cc)] [rowO ca 8 Nd.enc c.nodes]) (0 : Int) () ht16 rfl (fun _ h => h) ?_
      rintro v14 ⟨⟩ o17 H19 ho18
      try dsimp only at H19 ⊢
      refine C.seq ?_
      refine C.seq ?_
      refine C.reg ?_
      refine J.q rfl rfl rfl rfl (Q.move (.t 0 rfl)) ?_  -- 6:0 ref.go:34
      refine J.q rfl rfl rfl rfl (Q.fa0 2 Try.underlying26 rfl Try.sizeOf24 rfl rfl (.t 2 rfl)) ?_  -- 6:1 ref.go:34
      refine J.q rfl rfl rfl rfl (Q.load (.t 0 rfl) Try.isAgg24 (ldT 1 0 rfl (.skip (.skip (.cons .nil))))) ?_  -- 6:2 ref.go:34
      refine J.q rfl rfl rfl rfl (Q.len Try.underlying24 (.t 0 rfl)) ?_  -- 6:3 ref.go:34
      refine J.q rfl rfl rfl rfl (Q.lss (.t 3 rfl) (.t 0 rfl)) ?_  -- 6:4 ref.go:34
      refine J.end_ ?_
      refine C.keep (.cons 0 rfl (.cons 5 rfl (.cons 6 rfl .nil))) ?_
      refine C.cond (.t 0 rfl) (fun c20 => ?_) (fun c20 => ?_)
      ·
        replace H19 := sel_t c20 H19
        refine C.skip ?_
        refine X.go ?_
        refine C.keep (.cons 1 rfl (.cons 2 rfl .nil)) ?_
        refine C.seq ?_
        refine C.block ?_
        refine C.seq ?_
        obtain ⟨x21, hx22, hi23, H19⟩ := ix_some H19
        obtain ⟨r24, hr25, H19⟩ := bd_some H19
        refine C.reg ?_
        refine J.q rfl rfl rfl rfl (Q.fa0 2 Try.underlying26 rfl Try.sizeOf24 rfl rfl (.t 1 rfl)) ?_  -- 8:0 ref.go:35
        refine J.q rfl rfl rfl rfl (Q.load (.t 0 rfl) Try.isAgg24 (ldT 1 0 rfl (.skip (.skip (.cons .nil))))) ?_  -- 8:1 ref.go:35
        refine J.q rfl rfl rfl rfl (Q.move (.t 2 rfl)) ?_  -- 8:2 ref.go:35
        refine J.q rfl rfl rfl rfl (Q.ixO 0 rfl Try.underlying24 Try.sizeOf40 (.t 1 rfl) (.t 0 rfl) rfl hi23) ?_  -- 8:3 ref.go:35
        refine J.q rfl rfl rfl rfl (Q.loadsV (.t 0 rfl) ⟨Try.isAgg40, Try.sizeOf40⟩ (ldOa0 8 0 rfl hx22 (.cons (.cons (.cons (.cons (.cons (.cons (.cons (.cons .nil))))))))) rfl) ?_  -- 8:4 ref.go:35
        refine J.q rfl rfl rfl rfl (Q.move (.t 5 rfl)) ?_  -- 8:5 ref.go:35
        refine J.callV rfl rfl rfl rfl (run_static Try.call34 .f (.cons (.t 1 rfl) (.cons (.t 0 rfl) .nil)) rfl) (fun w hA => rnode_calls w (x21) (v14)  hr25) ?_  -- 8:6 ref.go:35
        refine J.q rfl rfl rfl rfl (Q.not_ (.t 0 rfl)) ?_  -- 8:7 ref.go:35
        refine J.end_ ?_
        refine C.keep (.cons 0 rfl (.cons 8 rfl (.cons 9 rfl .nil))) ?_
        refine C.cond (.t 0 rfl) (fun c26 => ?_) (fun c26 => ?_)
        ·
          replace H19 := sel_t c26 H19
          refine C.seq ?_
          refine C.reg ?_
          refine J.q rfl rfl rfl rfl (Q.assign .c) ?_  -- 9:0 ref.go:36
          refine J.end_ ?_
          refine C.keep (.cons 0 rfl .nil) ?_
          refine C.ret ?_
          refine X.inRet ?_
          refine X.thenRet ?_
          refine X.thenRet ?_
          obtain rfl := Option.some.inj H19
          obtain rfl := ho18
          try dsimp only [thn] at H
          refine X.inRet ?_
          refine X.thenRet ?_
          obtain rfl := Option.some.inj H
          refine X.rets (vs := [Value.int .i64 (2 : Int)]) rfl (.t 0 rfl .nil) (fun w' hA => ?_)
          exact PostV.of hA
        ·
          replace H19 := sel_f c26 H19
          refine C.skip ?_
          refine X.inNormal ?_
          refine X.go ?_
          refine C.keep (.cons 1 rfl (.cons 2 rfl .nil)) ?_
          obtain ⟨h28, H19⟩ := ck_some H19
          refine C.reg ?_
          refine J.q rfl rfl rfl rfl (Q.move (.t 0 rfl)) ?_  -- 7:0 ref.go:34
          refine J.q rfl rfl rfl rfl (Q.add (.t 0 rfl) .c h28) ?_  -- 7:1 ref.go:34
          refine J.keep (.cons 0 rfl (.cons 1 rfl (.cons 3 rfl .nil))) ?_
          refine J.q rfl rfl rfl rfl (Q.assign (.t 0 rfl)) ?_  -- 7:2 ref.go:34
          refine J.done ?_
          obtain rfl := Option.some.inj H19
          exact X.nxi (v14 + (1 : Int)) () ho18 (.cons 0 rfl (.cons 3 rfl .nil)) (fun _ h => h)
      ·
        replace H19 := sel_f c20 H19
        refine C.exit ?_
        refine X.thenExit ?_
        obtain rfl := Option.some.inj H19
        obtain rfl : (Sum.inl v14) = t15 := ho18
        try dsimp only [thn] at H
        refine X.thenExit ?_
        refine X.inHit ?_
        refine X.go ?_
        refine C.keep .nil ?_
        refine C.seq ?_
        refine C.reg ?_
        refine J.q rfl rfl rfl rfl (Q.assign .c) ?_  -- 10:0 ref.go:39
        refine J.end_ ?_
        refine C.ret ?_
        obtain rfl := Option.some.inj H
        refine X.rets (vs := [Value.int .i64 (0 : Int)]) rfl (.t 0 rfl .nil) (fun w' hA => ?_)
        exact PostV.of hA

noncomputable def F_rpath (c : Cable) (k : Int) : Option (List Int) := bd (iter (σ := ((List Int) × Int)) (τ := ((List Int) × Int)) (fun (v10, v13) => sel (decide ((0 : Int) ≤ v13)) (ck ((v10 ++ [v13]).length ≤ 68719476736) (ix c.nodes v13 fun x24 => (some (.inl ((v10 ++ [v13]), x24.parent))))) (some (.inr (v10, v13)))) (([] : (List Int)), k)) (fun (v10, v13) => some (v10))
theorem rpath_calls (w : World) (ca : Option Addr) (cc : Nat) (c : Cable)  (k : Int) (co : (rowO ca 8 Nd.enc c.nodes).ok w) (cl : c.nodes.length ≤ cc) {r : (List Int)} (H : F_rpath c k = some r) : Calls Try.prog 28 [Value.agg (Cable.cells c ca cc).toArray, Value.int .i64 k].toArray w (PostN (fun _ : (Option Addr × Nat) => True) (fun x => Value.slice x.1 r.length x.2) (fun x => (rowG 3 1 x.1 r.length x.2 (r.flatMap enI))) w) := by
  unfold F_rpath at H
  refine Calls.enter Try.func28 rfl rfl rfl ?_
  refine C.conseq (A' := St w no [] [rowO ca 8 Nd.enc c.nodes]) (fun _ e => by subst e; exact St.init _ _ (okCons co okNil)) ?_
  refine C.seq ?_
  refine C.reg ?_
  refine J.box rfl rfl rfl rfl (vs := (Cable.cells c ca cc)) (.t 0 rfl) rfl ?_; intro b1 _  -- 0:0 ref.go:43
  refine J.q rfl rfl rfl rfl (Q.assign .c) ?_  -- 0:1 ref.go:43
  refine J.end_ ?_
  refine C.keep (.cons 1 rfl (.cons 3 rfl .nil)) ?_
  refine C.seq ?_
  refine C.reg ?_
  refine J.q rfl rfl rfl rfl (Q.assign .c) ?_  -- 1:0 ref.go:44
  refine J.end_ ?_
  refine C.seq ?_
  refine C.block ?_
  refine C.conseq (A' := St w no [rowG 3 1 none ([] : (List Int)).length 0 (([] : (List Int)).flatMap enI), bx b1 26 (Cable.cells c ca cc)] [rowO ca 8 Nd.enc c.nodes]) (fun _ h => St.newG (e := 3) (sz := 1) h) ?_
  refine C.keep (L' := [(5, Value.slice none ([] : (List Int)).length 0), (2, _), (1, _)]) (.cons 0 rfl (.cons 1 rfl (.cons 2 rfl .nil))) ?_
  refine C.keep (.cons 0 rfl (.cons 2 rfl (.cons 1 rfl .nil))) ?_
  obtain ⟨t14, ht15, H⟩ := bd_some H
  refine C.it_2 (fun s r => Value.slice r.1 s.1.length r.2) (fun s r => Value.int .i64 s.2) (fun s r => St w no [rowG 3 1 r.1 s.1.length r.2 (s.1.flatMap enI), bx b1 26 (Cable.cells c ca cc)] [rowO ca 8 Nd.enc c.nodes]) (([] : (List Int)), k) (none, 0) ht15 rfl rfl (fun _ h => h) ?_
  rintro ⟨v10, v13⟩ ⟨a11, c12⟩ o16 H18 ho17
  try dsimp only at H18 ⊢
  refine C.seq ?_
  refine C.seq ?_
  refine C.reg ?_
  refine J.q rfl rfl rfl rfl (Q.move (.t 1 rfl)) ?_  -- 2:0 ref.go:45
  refine J.q rfl rfl rfl rfl (Q.geq (.t 0 rfl) .c) ?_  -- 2:1 ref.go:45
  refine J.end_ ?_
  refine C.keep (.cons 0 rfl (.cons 2 rfl (.cons 3 rfl (.cons 4 rfl .nil)))) ?_
  refine C.cond (.t 0 rfl) (fun c19 => ?_) (fun c19 => ?_)
  ·
    replace H18 := sel_t c19 H18
    refine C.skip ?_
    refine X.go ?_
    refine C.keep (.cons 1 rfl (.cons 2 rfl (.cons 3 rfl .nil))) ?_
    refine C.block ?_
    refine C.seq ?_
    obtain ⟨h21, H18⟩ := ck_some H18
    refine C.reg ?_
    refine J.q rfl rfl rfl rfl (Q.move (.t 0 rfl)) ?_  -- 3:0 ref.go:46
    refine J.q rfl rfl rfl rfl (Q.move (.t 2 rfl)) ?_  -- 3:1 ref.go:46
    refine J.litG (enc := enI) (us := [v13]) rfl rfl rfl rfl rfl rfl Try.underlying33 inf3 rfl (by decide) (fun _ => rfl) (.cons (.t 0 rfl) .nil) rfl rfl rfl rfl ?_; intro b20  -- 3:2 ref.go:46
    refine J.app (enc := enI) (xs := v10) (ys := [v13]) (Mn := fun a22 c23 => [rowG 3 1 (some (⟨b20, 0, none⟩ : Addr)) [v13].length [v13].length ([v13].flatMap enI), rowG 3 1 a22 (v10 ++ [v13]).length c23 ((v10 ++ [v13]).flatMap enI), bx b1 26 (Cable.cells c ca cc)]) rfl rfl rfl rfl Try.underlying33 inf3 rfl (by decide) (fun _ => rfl) (fun _ => (Ones.all (.cons rfl .nil))) (by decide) (.t 2 rfl) (.t 0 rfl) (fun w hA => (hA.okG 0 rfl (by decide) (fun _ => rfl))) rfl rfl h21 (fun _ _ => (.there .here)) ?_; intro a22 c23  -- 3:3 ref.go:46
    refine J.keep (.cons 0 rfl (.cons 1 rfl (.cons 2 rfl (.cons 3 rfl (.cons 5 rfl (.cons 6 rfl .nil)))))) ?_
    refine J.q rfl rfl rfl rfl (Q.assign (.t 0 rfl)) ?_  -- 3:4 ref.go:46
    refine J.end_ ?_
    refine C.keep (.cons 0 rfl (.cons 5 rfl (.cons 6 rfl .nil))) ?_
    obtain ⟨x24, hx25, hi26, H18⟩ := ix_some H18
    refine C.reg ?_
    refine J.q rfl rfl rfl rfl (Q.fa0 2 Try.underlying26 rfl Try.sizeOf24 rfl rfl (.t 2 rfl)) ?_  -- 4:0 ref.go:47
    refine J.q rfl rfl rfl rfl (Q.load (.t 0 rfl) Try.isAgg24 (ldT 1 2 rfl (.skip (.skip (.cons .nil))))) ?_  -- 4:1 ref.go:47
    refine J.q rfl rfl rfl rfl (Q.move (.t 3 rfl)) ?_  -- 4:2 ref.go:47
    refine J.q rfl rfl rfl rfl (Q.ixO 0 rfl Try.underlying24 Try.sizeOf40 (.t 1 rfl) (.t 0 rfl) rfl hi26) ?_  -- 4:3 ref.go:47
    refine J.q rfl rfl rfl rfl (Q.fa 0 Try.underlying40 rfl Try.sizeOf3 rfl rfl (.t 0 rfl)) ?_  -- 4:4 ref.go:47
    refine J.q rfl rfl rfl rfl (Q.load (.t 0 rfl) Try.isAgg3 (ldOa 1 0 rfl hx25 (.cons .nil))) ?_  -- 4:5 ref.go:47
    refine J.keep (.cons 0 rfl (.cons 1 rfl (.cons 2 rfl (.cons 3 rfl (.cons 4 rfl (.cons 5 rfl (.cons 6 rfl (.cons 8 rfl .nil)))))))) ?_
    refine J.q rfl rfl rfl rfl (Q.assign (.t 0 rfl)) ?_  -- 4:6 ref.go:47
    refine J.done ?_
    refine X.inNormal ?_
    obtain rfl := Option.some.inj H18
    exact X.nxi ((v10 ++ [v13]), x24.parent) (a22, c23) ho17 (.cons 7 rfl (.cons 0 rfl (.cons 8 rfl .nil))) (fun _ h => h.to (.cons (.there .here) (.cons (.there .here) .drop)))
  ·
    replace H18 := sel_f c19 H18
    refine C.exit ?_
    refine X.thenExit ?_
    obtain rfl := Option.some.inj H18
    obtain rfl : (v10, v13) = t14 := ho17
    try dsimp only at H
    refine X.thenExit ?_
    refine X.inHit ?_
    refine X.go ?_
    refine C.keep (.cons 1 rfl .nil) ?_
    refine C.seq ?_
    refine C.reg ?_
    refine J.q rfl rfl rfl rfl (Q.move (.t 0 rfl)) ?_  -- 5:0 ref.go:49
    refine J.q rfl rfl rfl rfl (Q.assign (.t 0 rfl)) ?_  -- 5:1 ref.go:49
    refine J.end_ ?_
    refine C.keep (.cons 0 rfl .nil) ?_
    refine C.ret ?_
    obtain rfl := Option.some.inj H
    refine X.rets (vs := [Value.slice a11 v10.length c12]) rfl (.t 0 rfl .nil) (fun w' hA => ?_)
    exact PostN.of (a11, c12) trivial (hA.to (.cons .here .drop))

noncomputable def F_rHas (l : (List Int)) (x : Int) : Option Bool := bd (iter (σ := Int) (τ := (Int ⊕ Bool)) (fun v7 => sel (decide (v7 < (l.length : Int))) (ix l v7 fun x14 => (sel (decide (x14 = x)) (some (.inr (.inr (true)))) (ck (I64ok (v7 + (1 : Int))) (some (.inl (v7 + (1 : Int))))))) (some (.inr (.inl v7)))) (0 : Int)) (fun t => thn t (fun v7 => some (false)))
theorem rHas_calls (w : World) (la : Option Addr) (lc : Nat) (l : (List Int))  (x : Int) (lo : (rowO la 1 enI l).ok w) (ll : l.length ≤ lc) {r : Bool} (H : F_rHas l x = some r) : Calls Try.prog 66 [Value.slice la l.length lc, Value.int .i64 x].toArray w (PostV (Value.bool r) w) := by
  unfold F_rHas at H
  refine Calls.enter Try.func66 rfl rfl rfl ?_
  refine C.conseq (A' := St w no [] [rowO la 1 enI l]) (fun _ e => by subst e; exact St.init _ _ (okCons lo okNil)) ?_
  refine C.seq ?_
  refine C.reg ?_
  refine J.q rfl rfl rfl rfl (Q.assign .c) ?_  -- 0:0 ref.go:53
  refine J.end_ ?_
  refine C.keep (.cons 1 rfl (.cons 2 rfl .nil)) ?_
  refine C.seq ?_
  refine C.seq ?_
  refine C.reg ?_
  refine J.q rfl rfl rfl rfl (Q.assign .c) ?_  -- 1:0 ref.go:54
  refine J.end_ ?_
  refine C.block ?_
  obtain ⟨t8, ht9, H⟩ := bd_some H
  refine C.it_1 (fun s r => Value.int .i64 s) (fun s r => St w no [] [rowO la 1 enI l]) (0 : Int) () ht9 rfl (fun _ h => h) ?_
  rintro v7 ⟨⟩ o10 H12 ho11
  try dsimp only at H12 ⊢
  refine C.seq ?_
  refine C.seq ?_
  refine C.reg ?_
  refine J.q rfl rfl rfl rfl (Q.move (.t 0 rfl)) ?_  -- 2:0 ref.go:54
  refine J.q rfl rfl rfl rfl (Q.move (.t 2 rfl)) ?_  -- 2:1 ref.go:54
  refine J.q rfl rfl rfl rfl (Q.len Try.underlying33 (.t 0 rfl)) ?_  -- 2:2 ref.go:54
  refine J.q rfl rfl rfl rfl (Q.lss (.t 2 rfl) (.t 0 rfl)) ?_  -- 2:3 ref.go:54
  refine J.end_ ?_
  refine C.keep (.cons 0 rfl (.cons 4 rfl (.cons 5 rfl (.cons 6 rfl .nil)))) ?_
  refine C.cond (.t 0 rfl) (fun c13 => ?_) (fun c13 => ?_)
  ·
    replace H12 := sel_t c13 H12
    refine C.skip ?_
    refine X.go ?_
    refine C.keep (.cons 1 rfl (.cons 2 rfl (.cons 3 rfl .nil))) ?_
    refine C.seq ?_
    refine C.block ?_
    refine C.seq ?_
    obtain ⟨x14, hx15, hi16, H12⟩ := ix_some H12
    refine C.reg ?_
    refine J.q rfl rfl rfl rfl (Q.move (.t 1 rfl)) ?_  -- 4:0 ref.go:55
    refine J.q rfl rfl rfl rfl (Q.move (.t 1 rfl)) ?_  -- 4:1 ref.go:55
    refine J.q rfl rfl rfl rfl (Q.ixO 0 rfl Try.underlying33 Try.sizeOf3 (.t 1 rfl) (.t 0 rfl) rfl hi16) ?_  -- 4:2 ref.go:55
    refine J.q rfl rfl rfl rfl (Q.load (.t 0 rfl) Try.isAgg3 (ldOa0 1 0 rfl hx15 (.cons .nil))) ?_  -- 4:3 ref.go:55
    refine J.q rfl rfl rfl rfl (Q.move (.t 6 rfl)) ?_  -- 4:4 ref.go:55
    refine J.q rfl rfl rfl rfl (Q.eql (.t 1 rfl) (.t 0 rfl)) ?_  -- 4:5 ref.go:55
    refine J.end_ ?_
    refine C.keep (.cons 0 rfl (.cons 6 rfl (.cons 7 rfl (.cons 8 rfl .nil)))) ?_
    refine C.cond (.t 0 rfl) (fun c17 => ?_) (fun c17 => ?_)
    ·
      replace H12 := sel_t c17 H12
      refine C.seq ?_
      refine C.reg ?_
      refine J.q rfl rfl rfl rfl (Q.assign .c) ?_  -- 5:0 ref.go:56
      refine J.end_ ?_
      refine C.keep (.cons 0 rfl .nil) ?_
      refine C.ret ?_
      refine X.inRet ?_
      refine X.thenRet ?_
      refine X.thenRet ?_
      obtain rfl := Option.some.inj H12
      obtain rfl := ho11
      try dsimp only [thn] at H
      refine X.inRet ?_
      refine X.thenRet ?_
      obtain rfl := Option.some.inj H
      refine X.rets (vs := [Value.bool true]) rfl (.t 0 rfl .nil) (fun w' hA => ?_)
      exact PostV.of hA
    ·
      replace H12 := sel_f c17 H12
      refine C.skip ?_
      refine X.inNormal ?_
      refine X.go ?_
      refine C.keep (.cons 1 rfl (.cons 2 rfl (.cons 3 rfl .nil))) ?_
      obtain ⟨h19, H12⟩ := ck_some H12
      refine C.reg ?_
      refine J.q rfl rfl rfl rfl (Q.move (.t 0 rfl)) ?_  -- 3:0 ref.go:54
      refine J.q rfl rfl rfl rfl (Q.add (.t 0 rfl) .c h19) ?_  -- 3:1 ref.go:54
      refine J.keep (.cons 0 rfl (.cons 1 rfl (.cons 3 rfl (.cons 4 rfl .nil)))) ?_
      refine J.q rfl rfl rfl rfl (Q.assign (.t 0 rfl)) ?_  -- 3:2 ref.go:54
      refine J.done ?_
      obtain rfl := Option.some.inj H12
      exact X.nxi (v7 + (1 : Int)) () ho11 (.cons 0 rfl (.cons 3 rfl (.cons 4 rfl .nil))) (fun _ h => h)
  ·
    replace H12 := sel_f c13 H12
    refine C.exit ?_
    refine X.thenExit ?_
    obtain rfl := Option.some.inj H12
    obtain rfl : (Sum.inl v7) = t8 := ho11
    try dsimp only [thn] at H
    refine X.thenExit ?_
    refine X.inHit ?_
    refine X.go ?_
    refine C.keep .nil ?_
    refine C.seq ?_
    refine C.reg ?_
    refine J.q rfl rfl rfl rfl (Q.assign .c) ?_  -- 6:0 ref.go:59
    refine J.end_ ?_
    refine C.ret ?_
    obtain rfl := Option.some.inj H
    refine X.rets (vs := [Value.bool false]) rfl (.t 0 rfl .nil) (fun w' hA => ?_)
    exact PostV.of hA

noncomputable def F_rsubtree (c : Cable) (k : Int) : Option (List Int) := bd (iter (σ := (Int × (List Int))) (τ := (Int × (List Int))) (fun (v16, v17) => sel (decide (v16 < (c.nodes.length : Int))) (bd (F_rpath (c) (v16)) fun r26 => (bd (F_rHas (r26) (k)) fun r30 => (sel r30 (ck ((v17 ++ [v16]).length ≤ 68719476736) (ck (I64ok (v16 + (1 : Int))) (some (.inl ((v16 + (1 : Int)), (v17 ++ [v16])))))) (ck (I64ok (v16 + (1 : Int))) (some (.inl ((v16 + (1 : Int)), v17))))))) (some (.inr (v16, v17)))) ((0 : Int), ([] : (List Int)))) (fun (v16, v17) => some (v17))
theorem rsubtree_calls (w : World) (ca : Option Addr) (cc : Nat) (c : Cable)  (k : Int) (co : (rowO ca 8 Nd.enc c.nodes).ok w) (cl : c.nodes.length ≤ cc) {r : (List Int)} (H : F_rsubtree c k = some r) : Calls Try.prog 50 [Value.agg (Cable.cells c ca cc).toArray, Value.int .i64 k].toArray w (PostN (fun _ : (Option Addr × Nat) => True) (fun x => Value.slice x.1 r.length x.2) (fun x => (rowG 3 1 x.1 r.length x.2 (r.flatMap enI))) w) := by
  unfold F_rsubtree at H
  refine Calls.enter Try.func50 rfl rfl rfl ?_
  refine C.conseq (A' := St w no [] [rowO ca 8 Nd.enc c.nodes]) (fun _ e => by subst e; exact St.init _ _ (okCons co okNil)) ?_
  refine C.seq ?_
  refine C.reg ?_
  refine J.box rfl rfl rfl rfl (vs := (Cable.cells c ca cc)) (.t 0 rfl) rfl ?_; intro b1 _  -- 0:0 ref.go:63
  refine J.q rfl rfl rfl rfl (Q.assign .c) ?_  -- 0:1 ref.go:63
  refine J.end_ ?_
  refine C.keep (.cons 1 rfl (.cons 3 rfl .nil)) ?_
  refine C.seq ?_
  refine C.reg ?_
  refine J.q rfl rfl rfl rfl (Q.assign .c) ?_  -- 1:0 ref.go:64
  refine J.end_ ?_
  refine C.seq ?_
  refine C.seq ?_
  refine C.reg ?_
  refine J.q rfl rfl rfl rfl (Q.assign .c) ?_  -- 2:0 ref.go:65
  refine J.end_ ?_
  refine C.block ?_
  refine C.conseq (A' := St w no [rowG 3 1 none ([] : (List Int)).length 0 (([] : (List Int)).flatMap enI), bx b1 26 (Cable.cells c ca cc)] [rowO ca 8 Nd.enc c.nodes]) (fun _ h => St.newG (e := 3) (sz := 1) h) ?_
  refine C.keep (L' := [(6, _), (5, Value.slice none ([] : (List Int)).length 0), (2, _), (1, _)]) (.cons 0 rfl (.cons 1 rfl (.cons 2 rfl (.cons 3 rfl .nil)))) ?_
  obtain ⟨t20, ht21, H⟩ := bd_some H
  refine C.it_2 (fun s r => Value.int .i64 s.1) (fun s r => Value.slice r.1 s.2.length r.2) (fun s r => St w no [rowG 3 1 r.1 s.2.length r.2 (s.2.flatMap enI), bx b1 26 (Cable.cells c ca cc)] [rowO ca 8 Nd.enc c.nodes]) ((0 : Int), ([] : (List Int))) (none, 0) ht21 rfl rfl (fun _ h => h) ?_
  rintro ⟨v16, v17⟩ ⟨a18, c19⟩ o22 H24 ho23
  try dsimp only at H24 ⊢
  refine C.seq ?_
  refine C.seq ?_
  refine C.reg ?_
  refine J.q rfl rfl rfl rfl (Q.move (.t 0 rfl)) ?_  -- 3:0 ref.go:65
  refine J.q rfl rfl rfl rfl (Q.fa0 2 Try.underlying26 rfl Try.sizeOf24 rfl rfl (.t 3 rfl)) ?_  -- 3:1 ref.go:65
  refine J.q rfl rfl rfl rfl (Q.load (.t 0 rfl) Try.isAgg24 (ldT 1 1 rfl (.skip (.skip (.cons .nil))))) ?_  -- 3:2 ref.go:65
  refine J.q rfl rfl rfl rfl (Q.len Try.underlying24 (.t 0 rfl)) ?_  -- 3:3 ref.go:65
  refine J.q rfl rfl rfl rfl (Q.lss (.t 3 rfl) (.t 0 rfl)) ?_  -- 3:4 ref.go:65
  refine J.end_ ?_
  refine C.keep (.cons 0 rfl (.cons 5 rfl (.cons 6 rfl (.cons 7 rfl (.cons 8 rfl .nil))))) ?_
  refine C.cond (.t 0 rfl) (fun c25 => ?_) (fun c25 => ?_)
  ·
    replace H24 := sel_t c25 H24
    refine C.skip ?_
    refine X.go ?_
    refine C.keep (.cons 1 rfl (.cons 2 rfl (.cons 3 rfl (.cons 4 rfl .nil)))) ?_
    refine C.seq ?_
    refine C.block ?_
    refine C.seq ?_
    obtain ⟨r26, hr27, H24⟩ := bd_some H24
    obtain ⟨r30, hr31, H24⟩ := bd_some H24
    refine C.reg ?_
    refine J.q rfl rfl rfl rfl (Q.loadsV (.t 2 rfl) ⟨Try.isAgg26, Try.sizeOf26⟩ (ldT 3 1 rfl (.cons (.cons (.cons .nil)))) rfl) ?_  -- 5:0 ref.go:66
    refine J.q rfl rfl rfl rfl (Q.move (.t 1 rfl)) ?_  -- 5:1 ref.go:66
    refine J.callN rfl rfl rfl rfl (run_static Try.call28 .f (.cons (.t 1 rfl) (.cons (.t 0 rfl) .nil)) rfl) (fun w hA => rpath_calls w ca cc (c) (v16) (hA.okO 0 rfl) cl hr27) ?_  -- 5:2 ref.go:66
    rintro ⟨a28, c29⟩ _
    refine J.q rfl rfl rfl rfl (Q.move (.t 6 rfl)) ?_  -- 5:3 ref.go:66
    refine J.callV rfl rfl rfl rfl (run_static Try.call66 .f (.cons (.t 1 rfl) (.cons (.t 0 rfl) .nil)) rfl) (fun w hA => rHas_calls w a28 c29 (r26) (k) (hA.okG 0 rfl (by decide) (fun _ => rfl)) (hA.leG 0 rfl) hr31) ?_  -- 5:4 ref.go:66
    refine J.end_ ?_
    refine C.keep (.cons 0 rfl (.cons 5 rfl (.cons 6 rfl (.cons 7 rfl (.cons 8 rfl .nil))))) ?_
    refine C.cond (.t 0 rfl) (fun c32 => ?_) (fun c32 => ?_)
    ·
      replace H24 := sel_t c32 H24
      obtain ⟨h34, H24⟩ := ck_some H24
      refine C.reg ?_
      refine J.q rfl rfl rfl rfl (Q.move (.t 2 rfl)) ?_  -- 6:0 ref.go:67
      refine J.q rfl rfl rfl rfl (Q.move (.t 2 rfl)) ?_  -- 6:1 ref.go:67
      refine J.litG (enc := enI) (us := [v16]) rfl rfl rfl rfl rfl rfl Try.underlying33 inf3 rfl (by decide) (fun _ => rfl) (.cons (.t 0 rfl) .nil) rfl rfl rfl rfl ?_; intro b33  -- 6:2 ref.go:67
      refine J.app (enc := enI) (xs := v17) (ys := [v16]) (Mn := fun a35 c36 => [rowG 3 1 (some (⟨b33, 0, none⟩ : Addr)) [v16].length [v16].length ([v16].flatMap enI), rowG 3 1 a28 r26.length c29 (r26.flatMap enI), rowG 3 1 a35 (v17 ++ [v16]).length c36 ((v17 ++ [v16]).flatMap enI), bx b1 26 (Cable.cells c ca cc)]) rfl rfl rfl rfl Try.underlying33 inf3 rfl (by decide) (fun _ => rfl) (fun _ => (Ones.all (.cons rfl .nil))) (by decide) (.t 2 rfl) (.t 0 rfl) (fun w hA => (hA.okG 0 rfl (by decide) (fun _ => rfl))) rfl rfl h34 (fun _ _ => (.there (.there .here))) ?_; intro a35 c36  -- 6:3 ref.go:67
      refine J.keep (.cons 0 rfl (.cons 1 rfl (.cons 2 rfl (.cons 3 rfl (.cons 4 rfl (.cons 5 rfl (.cons 7 rfl (.cons 8 rfl .nil)))))))) ?_
      refine J.q rfl rfl rfl rfl (Q.assign (.t 0 rfl)) ?_  -- 6:4 ref.go:67
      refine J.done ?_
      refine X.inNormal ?_
      refine X.go ?_
      refine C.keep (.cons 0 rfl (.cons 6 rfl (.cons 7 rfl (.cons 8 rfl .nil)))) ?_
      obtain ⟨h37, H24⟩ := ck_some H24
      refine C.reg ?_
      refine J.q rfl rfl rfl rfl (Q.move (.t 1 rfl)) ?_  -- 4:0 ref.go:65
      refine J.q rfl rfl rfl rfl (Q.add (.t 0 rfl) .c h37) ?_  -- 4:1 ref.go:65
      refine J.keep (.cons 0 rfl (.cons 1 rfl (.cons 2 rfl (.cons 4 rfl (.cons 5 rfl .nil))))) ?_
      refine J.q rfl rfl rfl rfl (Q.assign (.t 0 rfl)) ?_  -- 4:2 ref.go:65
      refine J.done ?_
      obtain rfl := Option.some.inj H24
      exact X.nxi ((v16 + (1 : Int)), (v17 ++ [v16])) (a35, c36) ho23 (.cons 0 rfl (.cons 3 rfl (.cons 4 rfl (.cons 5 rfl .nil)))) (fun _ h => h.to (.cons (.there (.there .here)) (.cons (.there (.there .here)) .drop)))
    ·
      replace H24 := sel_f c32 H24
      refine C.skip ?_
      refine X.inNormal ?_
      refine X.go ?_
      refine C.keep (.cons 1 rfl (.cons 2 rfl (.cons 3 rfl (.cons 4 rfl .nil)))) ?_
      obtain ⟨h38, H24⟩ := ck_some H24
      refine C.reg ?_
      refine J.q rfl rfl rfl rfl (Q.move (.t 0 rfl)) ?_  -- 4:0 ref.go:65
      refine J.q rfl rfl rfl rfl (Q.add (.t 0 rfl) .c h38) ?_  -- 4:1 ref.go:65
      refine J.keep (.cons 0 rfl (.cons 1 rfl (.cons 3 rfl (.cons 4 rfl (.cons 5 rfl .nil))))) ?_
      refine J.q rfl rfl rfl rfl (Q.assign (.t 0 rfl)) ?_  -- 4:2 ref.go:65
      refine J.done ?_
      obtain rfl := Option.some.inj H24
      exact X.nxi ((v16 + (1 : Int)), v17) (a18, c19) ho23 (.cons 0 rfl (.cons 3 rfl (.cons 4 rfl (.cons 5 rfl .nil)))) (fun _ h => h.to (.cons (.there .here) (.cons (.there .here) .drop)))
  ·
    replace H24 := sel_f c25 H24
    refine C.exit ?_
    refine X.thenExit ?_
    obtain rfl := Option.some.inj H24
    obtain rfl : (v16, v17) = t20 := ho23
    try dsimp only at H
    refine X.thenExit ?_
    refine X.inHit ?_
    refine X.go ?_
    refine C.keep (.cons 2 rfl .nil) ?_
    refine C.seq ?_
    refine C.reg ?_
    refine J.q rfl rfl rfl rfl (Q.move (.t 0 rfl)) ?_  -- 7:0 ref.go:70
    refine J.q rfl rfl rfl rfl (Q.assign (.t 0 rfl)) ?_  -- 7:1 ref.go:70
    refine J.end_ ?_
    refine C.keep (.cons 0 rfl .nil) ?_
    refine C.ret ?_
    obtain rfl := Option.some.inj H
    refine X.rets (vs := [Value.slice a18 v17.length c19]) rfl (.t 0 rfl .nil) (fun w' hA => ?_)
    exact PostN.of (a18, c19) trivial (hA.to (.cons .here .drop))

noncomputable def F_rcarried (c : Cable) (g : (List Int)) (k : Int) : Option Int := bd (F_rsubtree (c) (k)) fun r2 => (bd (iter (σ := (Int × Int)) (τ := (Int × Int)) (fun (v15, v16) => sel (decide (v15 < (r2.length : Int))) (ix r2 v15 fun x23 => (ix g x23 fun x26 => (ck (I64ok (v16 + x26)) (ck (I64ok (v15 + (1 : Int))) (some (.inl ((v15 + (1 : Int)), (v16 + x26)))))))) (some (.inr (v15, v16)))) ((0 : Int), (0 : Int))) (fun (v15, v16) => some (v16)))
theorem rcarried_calls (w : World) (ca : Option Addr) (cc : Nat) (c : Cable) (ga : Option Addr) (gc : Nat) (g : (List Int))  (k : Int) (co : (rowO ca 8 Nd.enc c.nodes).ok w) (cl : c.nodes.length ≤ cc) (go : (rowO ga 1 enI g).ok w) (gl : g.length ≤ gc) {r : Int} (H : F_rcarried c g k = some r) : Calls Try.prog 29 [Value.agg (Cable.cells c ca cc).toArray, Value.slice ga g.length gc, Value.int .i64 k].toArray w (PostV (Value.int .i64 r) w) := by
  unfold F_rcarried at H
  refine Calls.enter Try.func29 rfl rfl rfl ?_
  refine C.conseq (A' := St w no [] [rowO ca 8 Nd.enc c.nodes, rowO ga 1 enI g]) (fun _ e => by subst e; exact St.init _ _ (okCons co (okCons go okNil))) ?_
  refine C.seq ?_
  refine C.reg ?_
  refine J.box rfl rfl rfl rfl (vs := (Cable.cells c ca cc)) (.t 0 rfl) rfl ?_; intro b1 _  -- 0:0 ref.go:182
  refine J.q rfl rfl rfl rfl (Q.assign .c) ?_  -- 0:1 ref.go:182
  refine J.end_ ?_
  refine C.keep (.cons 1 rfl (.cons 3 rfl (.cons 4 rfl .nil))) ?_
  refine C.seq ?_
  refine C.reg ?_
  refine J.q rfl rfl rfl rfl (Q.assign .c) ?_  -- 1:0 ref.go:183
  refine J.end_ ?_
  refine C.seq ?_
  obtain ⟨r2, hr3, H⟩ := bd_some H
  refine C.reg ?_
  refine J.q rfl rfl rfl rfl (Q.loadsV (.t 1 rfl) ⟨Try.isAgg26, Try.sizeOf26⟩ (ldT 3 0 rfl (.cons (.cons (.cons .nil)))) rfl) ?_  -- 2:0 ref.go:184
  refine J.q rfl rfl rfl rfl (Q.move (.t 4 rfl)) ?_  -- 2:1 ref.go:184
  refine J.callN rfl rfl rfl rfl (run_static Try.call50 .f (.cons (.t 1 rfl) (.cons (.t 0 rfl) .nil)) rfl) (fun w hA => rsubtree_calls w ca cc (c) (k) (hA.okO 0 rfl) cl hr3) ?_  -- 2:2 ref.go:184
  rintro ⟨a4, c5⟩ _
  refine J.q rfl rfl rfl rfl (Q.assign (.t 0 rfl)) ?_  -- 2:3 ref.go:184
  refine J.end_ ?_
  refine C.keep (.cons 0 rfl (.cons 4 rfl (.cons 6 rfl .nil))) ?_
  refine C.seq ?_
  refine C.seq ?_
  refine C.reg ?_
  refine J.q rfl rfl rfl rfl (Q.assign .c) ?_  -- 3:0 ref.go:185
  refine J.end_ ?_
  refine C.block ?_
  refine C.keep (.cons 0 rfl (.cons 2 rfl (.cons 1 rfl (.cons 3 rfl .nil)))) ?_
  obtain ⟨t17, ht18, H⟩ := bd_some H
  refine C.it_2 (fun s r => Value.int .i64 s.1) (fun s r => Value.int .i64 s.2) (fun s r => St w no [rowG 3 1 a4 r2.length c5 (r2.flatMap enI)] [rowO ca 8 Nd.enc c.nodes, rowO ga 1 enI g]) ((0 : Int), (0 : Int)) () ht18 rfl rfl (fun _ h => h.to (.cons .here .drop)) ?_
  rintro ⟨v15, v16⟩ ⟨⟩ o19 H21 ho20
  try dsimp only at H21 ⊢
  refine C.seq ?_
  refine C.seq ?_
  refine C.reg ?_
  refine J.q rfl rfl rfl rfl (Q.move (.t 0 rfl)) ?_  -- 4:0 ref.go:185
  refine J.q rfl rfl rfl rfl (Q.move (.t 3 rfl)) ?_  -- 4:1 ref.go:185
  refine J.q rfl rfl rfl rfl (Q.len Try.underlying33 (.t 0 rfl)) ?_  -- 4:2 ref.go:185
  refine J.q rfl rfl rfl rfl (Q.lss (.t 2 rfl) (.t 0 rfl)) ?_  -- 4:3 ref.go:185
  refine J.end_ ?_
  refine C.keep (.cons 0 rfl (.cons 4 rfl (.cons 5 rfl (.cons 6 rfl (.cons 7 rfl .nil))))) ?_
  refine C.cond (.t 0 rfl) (fun c22 => ?_) (fun c22 => ?_)
  ·
    replace H21 := sel_t c22 H21
    refine C.skip ?_
    refine X.go ?_
    refine C.keep (.cons 1 rfl (.cons 2 rfl (.cons 3 rfl (.cons 4 rfl .nil)))) ?_
    refine C.seq ?_
    refine C.block ?_
    obtain ⟨x23, hx24, hi25, H21⟩ := ix_some H21
    obtain ⟨x26, hx27, hi28, H21⟩ := ix_some H21
    obtain ⟨h29, H21⟩ := ck_some H21
    refine C.reg ?_
    refine J.q rfl rfl rfl rfl (Q.move (.t 1 rfl)) ?_  -- 6:0 ref.go:186
    refine J.q rfl rfl rfl rfl (Q.move (.t 4 rfl)) ?_  -- 6:1 ref.go:186
    refine J.q rfl rfl rfl rfl (Q.move (.t 4 rfl)) ?_  -- 6:2 ref.go:186
    refine J.q rfl rfl rfl rfl (Q.move (.t 3 rfl)) ?_  -- 6:3 ref.go:186
    refine J.q rfl rfl rfl rfl (Q.ixG 0 rfl Try.underlying33 Try.sizeOf3 (.t 1 rfl) (.t 0 rfl) hi25) ?_  -- 6:4 ref.go:186
    refine J.q rfl rfl rfl rfl (Q.load (.t 0 rfl) Try.isAgg3 (ldGa0 (sz := 1) (enc := enI) 1 0 rfl (by decide) (fun _ => rfl) hx24 (.cons .nil))) ?_  -- 6:5 ref.go:186
    refine J.q rfl rfl rfl rfl (Q.ixO 1 rfl Try.underlying32 Try.sizeOf2 (.t 4 rfl) (.t 0 rfl) rfl hi28) ?_  -- 6:6 ref.go:186
    refine J.q rfl rfl rfl rfl (Q.load (.t 0 rfl) Try.isAgg2 (ldOa0 1 1 rfl hx27 (.cons .nil))) ?_  -- 6:7 ref.go:186
    refine J.q rfl rfl rfl rfl (Q.add (.t 7 rfl) (.t 0 rfl) h29) ?_  -- 6:8 ref.go:186
    refine J.keep (.cons 0 rfl (.cons 1 rfl (.cons 2 rfl (.cons 3 rfl (.cons 4 rfl (.cons 5 rfl (.cons 6 rfl (.cons 7 rfl (.cons 8 rfl (.cons 9 rfl (.cons 11 rfl (.cons 12 rfl .nil)))))))))))) ?_
    refine J.q rfl rfl rfl rfl (Q.assign (.t 0 rfl)) ?_  -- 6:9 ref.go:186
    refine J.done ?_
    refine X.inNormal ?_
    refine X.go ?_
    refine C.keep (.cons 0 rfl (.cons 10 rfl (.cons 11 rfl (.cons 12 rfl .nil)))) ?_
    obtain ⟨h30, H21⟩ := ck_some H21
    refine C.reg ?_
    refine J.q rfl rfl rfl rfl (Q.move (.t 1 rfl)) ?_  -- 5:0 ref.go:185
    refine J.q rfl rfl rfl rfl (Q.add (.t 0 rfl) .c h30) ?_  -- 5:1 ref.go:185
    refine J.keep (.cons 0 rfl (.cons 1 rfl (.cons 2 rfl (.cons 4 rfl (.cons 5 rfl .nil))))) ?_
    refine J.q rfl rfl rfl rfl (Q.assign (.t 0 rfl)) ?_  -- 5:2 ref.go:185
    refine J.done ?_
    obtain rfl := Option.some.inj H21
    exact X.nxi ((v15 + (1 : Int)), (v16 + x26)) () ho20 (.cons 0 rfl (.cons 3 rfl (.cons 4 rfl (.cons 5 rfl .nil)))) (fun _ h => h)
  ·
    replace H21 := sel_f c22 H21
    refine C.exit ?_
    refine X.thenExit ?_
    obtain rfl := Option.some.inj H21
    obtain rfl : (v15, v16) = t17 := ho20
    try dsimp only at H
    refine X.thenExit ?_
    refine X.inHit ?_
    refine X.go ?_
    refine C.keep (.cons 2 rfl .nil) ?_
    refine C.seq ?_
    refine C.reg ?_
    refine J.q rfl rfl rfl rfl (Q.move (.t 0 rfl)) ?_  -- 7:0 ref.go:188
    refine J.q rfl rfl rfl rfl (Q.assign (.t 0 rfl)) ?_  -- 7:1 ref.go:188
    refine J.end_ ?_
    refine C.keep (.cons 0 rfl .nil) ?_
    refine C.ret ?_
    obtain rfl := Option.some.inj H
    refine X.rets (vs := [Value.int .i64 v16]) rfl (.t 0 rfl .nil) (fun w' hA => ?_)
    exact PostV.of hA

noncomputable def F_rOrder (ranks : (List Int)) : Option (List Int) := bd (iter (σ := (Int × (List Int))) (τ := (Int × (List Int))) (fun (v45, v46) => sel (decide (v45 < (ranks.length : Int))) (bd (iter (σ := Int) (τ := Int) (fun v67 => ck ((((decide ((0 : Int) < v67)) == true) = true → I64ok (v67 - (1 : Int)))) (ixg ((decide ((0 : Int) < v67)) == true) v46 (v67 - (1 : Int)) fun x74 => (ixg ((decide ((0 : Int) < v67)) == true) ranks x74 fun x77 => (ixg ((decide ((0 : Int) < v67)) == true) ranks v45 fun x80 => (sel ((decide ((0 : Int) < v67)) && (decide (x77 < x80))) (ck (I64ok (v67 - (1 : Int))) (some (.inl (v67 - (1 : Int))))) (some (.inr v67))))))) (v46.length : Int)) (fun v67 => ck (0 ≤ (0 : Int) ∧ (0 : Int) ≤ v67 ∧ v67 ≤ (v46.length : Int)) (ck ((([] : List Int) ++ ((v46.take (Int.toNat v67)).drop (Int.toNat (0 : Int)))).length ≤ 68719476736) (ck (((([] : List Int) ++ ((v46.take (Int.toNat v67)).drop (Int.toNat (0 : Int)))) ++ [v45]).length ≤ 68719476736) (ck (0 ≤ v67 ∧ v67 ≤ (v46.length : Int) ∧ (v46.length : Int) ≤ (v46.length : Int)) (ck ((((([] : List Int) ++ ((v46.take (Int.toNat v67)).drop (Int.toNat (0 : Int)))) ++ [v45]) ++ ((v46.take (Int.toNat (v46.length : Int))).drop (Int.toNat v67))).length ≤ 68719476736) (ck (I64ok (v45 + (1 : Int))) (some (.inl ((v45 + (1 : Int)), (((([] : List Int) ++ ((v46.take (Int.toNat v67)).drop (Int.toNat (0 : Int)))) ++ [v45]) ++ ((v46.take (Int.toNat (v46.length : Int))).drop (Int.toNat v67))))))))))))) (some (.inr (v45, v46)))) ((0 : Int), ([] : (List Int)))) (fun (v45, v46) => some (v46))
theorem rOrder_calls (w : World) (ranksa : Option Addr) (ranksc : Nat) (ranks : (List Int)) (rankso : (rowO ranksa 1 enI ranks).ok w) (ranksl : ranks.length ≤ ranksc) {r : (List Int)} (H : F_rOrder ranks = some r) : Calls Try.prog 10 [Value.slice ranksa ranks.length ranksc].toArray w (PostN (fun _ : (Option Addr × Nat) => True) (fun x => Value.slice x.1 r.length x.2) (fun x => (rowG 3 1 x.1 r.length x.2 (r.flatMap enI))) w) := by
  unfold F_rOrder at H
  refine Calls.enter Try.func10 rfl rfl rfl ?_
  refine C.conseq (A' := St w no [] [rowO ranksa 1 enI ranks]) (fun _ e => by subst e; exact St.init _ _ (okCons rankso okNil)) ?_
  refine C.seq ?_
  refine C.reg ?_
  refine J.q rfl rfl rfl rfl (Q.assign .c) ?_  -- 0:0 ref.go:192
  refine J.end_ ?_
  refine C.keep (.cons 1 rfl .nil) ?_
  refine C.seq ?_
  refine C.reg ?_
  refine J.q rfl rfl rfl rfl (Q.assign .c) ?_  -- 1:0 ref.go:193
  refine J.end_ ?_
  refine C.seq ?_
  refine C.seq ?_
  refine C.reg ?_
  refine J.q rfl rfl rfl rfl (Q.assign .c) ?_  -- 2:0 ref.go:194
  refine J.end_ ?_
  refine C.block ?_
  refine C.conseq (A' := St w no [rowG 3 1 none ([] : (List Int)).length 0 (([] : (List Int)).flatMap enI)] [rowO ranksa 1 enI ranks]) (fun _ h => St.newG (e := 3) (sz := 1) h) ?_
  refine C.keep (L' := [(4, _), (3, Value.slice none ([] : (List Int)).length 0), (0, _)]) (.cons 0 rfl (.cons 1 rfl (.cons 2 rfl .nil))) ?_
  obtain ⟨t49, ht50, H⟩ := bd_some H
  refine C.it_2 (fun s r => Value.int .i64 s.1) (fun s r => Value.slice r.1 s.2.length r.2) (fun s r => St w no [rowG 3 1 r.1 s.2.length r.2 (s.2.flatMap enI)] [rowO ranksa 1 enI ranks]) ((0 : Int), ([] : (List Int))) (none, 0) ht50 rfl rfl (fun _ h => h) ?_
  rintro ⟨v45, v46⟩ ⟨a47, c48⟩ o51 H53 ho52
  try dsimp only at H53 ⊢
  refine C.seq ?_
  refine C.seq ?_
  refine C.reg ?_
  refine J.q rfl rfl rfl rfl (Q.move (.t 0 rfl)) ?_  -- 3:0 ref.go:194
  refine J.q rfl rfl rfl rfl (Q.move (.t 3 rfl)) ?_  -- 3:1 ref.go:194
  refine J.q rfl rfl rfl rfl (Q.len Try.underlying33 (.t 0 rfl)) ?_  -- 3:2 ref.go:194
  refine J.q rfl rfl rfl rfl (Q.lss (.t 2 rfl) (.t 0 rfl)) ?_  -- 3:3 ref.go:194
  refine J.end_ ?_
  refine C.keep (.cons 0 rfl (.cons 4 rfl (.cons 5 rfl (.cons 6 rfl .nil)))) ?_
  refine C.cond (.t 0 rfl) (fun c54 => ?_) (fun c54 => ?_)
  ·
    replace H53 := sel_t c54 H53
    refine C.skip ?_
    refine X.go ?_
    refine C.keep (.cons 1 rfl (.cons 2 rfl (.cons 3 rfl .nil))) ?_
    refine C.seq ?_
    refine C.block ?_
    refine C.seq ?_
    refine C.reg ?_
    refine J.q rfl rfl rfl rfl (Q.move (.t 1 rfl)) ?_  -- 5:0 ref.go:195
    refine J.q rfl rfl rfl rfl (Q.len Try.underlying33 (.t 0 rfl)) ?_  -- 5:1 ref.go:195
    refine J.q rfl rfl rfl rfl (Q.assign (.t 0 rfl)) ?_  -- 5:2 ref.go:195
    refine J.end_ ?_
    refine C.keep (.cons 0 rfl (.cons 3 rfl (.cons 4 rfl (.cons 5 rfl .nil)))) ?_
    refine C.seq ?_
    refine C.block ?_
    obtain ⟨t68, ht69, H53⟩ := bd_some H53
    refine C.it_1 (fun s r => Value.int .i64 s) (fun s r => St w no [rowG 3 1 a47 v46.length c48 (v46.flatMap enI)] [rowO ranksa 1 enI ranks]) (v46.length : Int) () ht69 rfl (fun _ h => h) ?_
    rintro v67 ⟨⟩ o70 H72 ho71
    try dsimp only at H72 ⊢
    refine C.seq ?_
    refine C.seq ?_
    obtain ⟨h73, H72⟩ := ck_some H72
    obtain ⟨x74, hx75, hi76, H72⟩ := ixg_some H72
    obtain ⟨x77, hx78, hi79, H72⟩ := ixg_some H72
    obtain ⟨x80, hx81, hi82, H72⟩ := ixg_some H72
    refine C.drawS ?_
    refine JC.q 0 rfl rfl rfl rfl (Q.move (.t 0 rfl)) ?_  -- 6:0 ref.go:196
    refine JC.q 1 rfl rfl rfl rfl (Q.gtr (.t 0 rfl) .c) ?_  -- 6:1 ref.go:196
    refine JC.q 2 rfl rfl rfl rfl (Q.move (.t 0 rfl)) ?_  -- 6:2 ref.go:196
    refine JC.gQ 3 rfl (Gd.one rfl rfl rfl (.t 0 rfl)) rfl rfl (.p 6 rfl .nil) (fun hg => (Q.move (.t 0 rfl))) ?_  -- 6:3 ref.go:196
    refine JC.gQ 4 rfl (Gd.one rfl rfl rfl (.t 1 rfl)) rfl rfl (.p 6 rfl .nil) (fun hg => (Q.move (.t 0 rfl))) ?_  -- 6:4 ref.go:196
    refine JC.gQ 5 rfl (Gd.one rfl rfl rfl (.t 2 rfl)) rfl rfl (.p 5 rfl .nil) (fun hg => (Q.move (.t 0 rfl))) ?_  -- 6:5 ref.go:196
    refine JC.gQ 6 rfl (Gd.one rfl rfl rfl (.t 3 rfl)) rfl rfl (.g 0 rfl .nil) (fun hg => (Q.sub (.t 0 rfl) .c (h73 hg))) ?_  -- 6:6 ref.go:196
    refine JC.gQ 7 rfl (Gd.one rfl rfl rfl (.t 4 rfl)) rfl rfl (.g 2 rfl (.g 0 rfl .nil)) (fun hg => (Q.ixG 0 rfl Try.underlying33 Try.sizeOf3 (.t 0 rfl) (.t 1 rfl) (hi76 hg))) ?_  -- 6:7 ref.go:196
    refine JC.gQ 8 rfl (Gd.one rfl rfl rfl (.t 5 rfl)) rfl rfl (.g 0 rfl .nil) (fun hg => (Q.load (.t 0 rfl) Try.isAgg3 (ldGa0 (sz := 1) (enc := enI) 1 0 rfl (by decide) (fun _ => rfl) (hx75 hg) (.cons .nil)))) ?_  -- 6:8 ref.go:196
    refine JC.gQ 9 rfl (Gd.one rfl rfl rfl (.t 6 rfl)) rfl rfl (.g 5 rfl (.g 0 rfl .nil)) (fun hg => (Q.ixO 0 rfl Try.underlying33 Try.sizeOf3 (.t 0 rfl) (.t 1 rfl) rfl (hi79 hg))) ?_  -- 6:9 ref.go:196
    refine JC.gQ 10 rfl (Gd.one rfl rfl rfl (.t 7 rfl)) rfl rfl (.g 0 rfl .nil) (fun hg => (Q.load (.t 0 rfl) Try.isAgg3 (ldOa0 1 0 rfl (hx78 hg) (.cons .nil)))) ?_  -- 6:10 ref.go:196
    refine JC.gQ 11 rfl (Gd.one rfl rfl rfl (.t 8 rfl)) rfl rfl (.p 14 rfl .nil) (fun hg => (Q.move (.t 0 rfl))) ?_  -- 6:11 ref.go:196
    refine JC.gQ 12 rfl (Gd.one rfl rfl rfl (.t 9 rfl)) rfl rfl (.p 13 rfl .nil) (fun hg => (Q.move (.t 0 rfl))) ?_  -- 6:12 ref.go:196
    refine JC.gQ 13 rfl (Gd.one rfl rfl rfl (.t 10 rfl)) rfl rfl (.g 1 rfl (.g 0 rfl .nil)) (fun hg => (Q.ixO 0 rfl Try.underlying33 Try.sizeOf3 (.t 0 rfl) (.t 1 rfl) rfl (hi82 hg))) ?_  -- 6:13 ref.go:196
    refine JC.gQ 14 rfl (Gd.one rfl rfl rfl (.t 11 rfl)) rfl rfl (.g 0 rfl .nil) (fun hg => (Q.load (.t 0 rfl) Try.isAgg3 (ldOa0 1 0 rfl (hx81 hg) (.cons .nil)))) ?_  -- 6:14 ref.go:196
    refine JC.gQ 15 rfl (Gd.one rfl rfl rfl (.t 12 rfl)) rfl rfl (.g 4 rfl (.g 0 rfl .nil)) (fun hg => (Q.lss (.t 0 rfl) (.t 1 rfl))) ?_  -- 6:15 ref.go:196
    refine JC.q 16 rfl rfl rfl rfl (Q.and_ (.t 13 rfl) (.t 0 rfl)) ?_  -- 6:16 ref.go:196
    refine JC.tail [0, 1, 3, 7, 7, 7, 39, 119, 247, 511, 1023, 7, 7, 6151, 14343, 32767, 65535] 0 mixed (by kernel_rfl) (by kernel_rfl) (fun _ h => h) ?_
    refine JT.end_ ?_
    refine X.go ?_
    refine C.keep (.cons 0 rfl (.cons 17 rfl (.cons 18 rfl (.cons 19 rfl (.cons 20 rfl .nil))))) ?_
    refine C.cond (.t 0 rfl) (fun c83 => ?_) (fun c83 => ?_)
    ·
      replace H72 := sel_t c83 H72
      refine C.skip ?_
      refine X.go ?_
      refine C.keep (.cons 1 rfl (.cons 2 rfl (.cons 3 rfl (.cons 4 rfl .nil)))) ?_
      refine C.block ?_
      obtain ⟨h84, H72⟩ := ck_some H72
      refine C.reg ?_
      refine J.q rfl rfl rfl rfl (Q.move (.t 0 rfl)) ?_  -- 7:0 ref.go:197
      refine J.q rfl rfl rfl rfl (Q.sub (.t 0 rfl) .c h84) ?_  -- 7:1 ref.go:197
      refine J.keep (.cons 0 rfl (.cons 1 rfl (.cons 3 rfl (.cons 4 rfl (.cons 5 rfl .nil))))) ?_
      refine J.q rfl rfl rfl rfl (Q.assign (.t 0 rfl)) ?_  -- 7:2 ref.go:197
      refine J.done ?_
      refine X.inNormal ?_
      obtain rfl := Option.some.inj H72
      exact X.nxi (v67 - (1 : Int)) () ho71 (.cons 0 rfl (.cons 3 rfl (.cons 4 rfl (.cons 5 rfl .nil)))) (fun _ h => h)
    ·
      replace H72 := sel_f c83 H72
      refine C.exit ?_
      refine X.thenExit ?_
      obtain rfl := Option.some.inj H72
      obtain rfl : v67 = t68 := ho71
      try dsimp only at H53
      refine X.thenExit ?_
      refine X.inHit ?_
      refine X.go ?_
      refine C.keep (.cons 1 rfl (.cons 2 rfl (.cons 3 rfl (.cons 4 rfl .nil)))) ?_
      obtain ⟨h86, H53⟩ := ck_some H53
      obtain ⟨h87, H53⟩ := ck_some H53
      obtain ⟨h91, H53⟩ := ck_some H53
      obtain ⟨h94, H53⟩ := ck_some H53
      obtain ⟨h95, H53⟩ := ck_some H53
      refine C.drawS ?_
      refine JC.q 1 rfl rfl rfl rfl (Q.move (.t 2 rfl)) ?_  -- 8:1 ref.go:199
      refine JC.q 2 rfl rfl rfl rfl (Q.move (.t 1 rfl)) ?_  -- 8:2 ref.go:199
      refine JC.q 3 rfl rfl rfl rfl (Q.slL v46 Try.underlying33 Try.sizeOf3 (.t 1 rfl) rfl ⟨_, (.t 0 rfl)⟩ h86 (fun w hA => (hA.leG 0 rfl))) ?_  -- 8:3 ref.go:199
      refine JC.q 5 rfl rfl rfl rfl (Q.move (.t 4 rfl)) ?_  -- 8:5 ref.go:199
      refine JC.q 8 rfl rfl rfl rfl (Q.move (.t 6 rfl)) ?_  -- 8:8 ref.go:199
      refine JC.q 9 rfl rfl rfl rfl (Q.move (.t 5 rfl)) ?_  -- 8:9 ref.go:199
      refine JC.q 10 rfl rfl rfl rfl (Q.slL v46 Try.underlying33 Try.sizeOf3 (.t 1 rfl) ⟨_, (.t 0 rfl)⟩ rfl h94 (fun w hA => (hA.leG 0 rfl))) ?_  -- 8:10 ref.go:199
      refine JC.tail [0, 0, 0, 6, 15, 0, 32, 127, 0, 0, 768, 2047, 4095] 6 mixed (by kernel_rfl) (by kernel_rfl) (fun _ h => h) ?_
      refine JT.pick [0, 6] (by kernel_rfl) (.cons (DStep.of rfl ?_) (.cons (DStep.of rfl ?_) .nil))
      ·
        refine J.litE (enc := enI) (sz := 1) rfl rfl rfl rfl Try.underlying33 inf3 ?_; intro b85  -- 8:0 ref.go:199
        refine J.finD rfl rfl (fun _ h => h.to (.cons (.there .here) .drop)) ?_
        refine JT.pick [4, 6] (by kernel_rfl) (.cons (DStep.of rfl ?_) (.cons (DStep.of rfl ?_) .nil))
        ·
          refine J.app (enc := enI) (xs := ([] : List Int)) (ys := ((v46.take (Int.toNat v67)).drop (Int.toNat (0 : Int)))) (Mn := fun a88 c89 => [rowG 3 1 a88 (([] : List Int) ++ ((v46.take (Int.toNat v67)).drop (Int.toNat (0 : Int)))).length c89 ((([] : List Int) ++ ((v46.take (Int.toNat v67)).drop (Int.toNat (0 : Int)))).flatMap enI), rowG 3 1 a47 v46.length c48 (v46.flatMap enI)]) rfl rfl rfl rfl Try.underlying33 inf3 rfl (by decide) (fun _ => rfl) (fun _ => (Ones.all (.cons rfl .nil))) (by decide) (.t 0 rfl) (.t 5 rfl) (fun w hA => (subRow_ok (by decide) (fun _ => rfl) (hA.okG 1 rfl (by decide) (fun _ => rfl)) (by have := h86; omega) (by have := h86; omega) (hA.leG 1 rfl))) rfl rfl h87 (fun _ _ => .here) ?_; intro a88 c89  -- 8:4 ref.go:199
          refine J.finD rfl rfl (fun _ h => h.to (.cons (.there .here) .drop)) ?_
          refine JT.pick [6] (by kernel_rfl) (.cons (DStep.of rfl ?_) .nil)
          refine J.litG (enc := enI) (us := [v45]) rfl rfl rfl rfl rfl rfl Try.underlying33 inf3 rfl (by decide) (fun _ => rfl) (.cons (.t 5 rfl) .nil) rfl rfl rfl rfl ?_; intro b90  -- 8:6 ref.go:199
          refine J.finD rfl rfl (fun _ h => h.to (.cons (.there (.there .here)) .drop)) ?_
          refine JT.pick [7] (by kernel_rfl) (.cons (DStep.of rfl ?_) .nil)
          refine J.app (enc := enI) (xs := (([] : List Int) ++ ((v46.take (Int.toNat v67)).drop (Int.toNat (0 : Int))))) (ys := [v45]) (Mn := fun a92 c93 => [rowG 3 1 (some (⟨b90, 0, none⟩ : Addr)) [v45].length [v45].length ([v45].flatMap enI), rowG 3 1 a92 ((([] : List Int) ++ ((v46.take (Int.toNat v67)).drop (Int.toNat (0 : Int)))) ++ [v45]).length c93 (((([] : List Int) ++ ((v46.take (Int.toNat v67)).drop (Int.toNat (0 : Int)))) ++ [v45]).flatMap enI), rowG 3 1 a47 v46.length c48 (v46.flatMap enI)]) rfl rfl rfl rfl Try.underlying33 inf3 rfl (by decide) (fun _ => rfl) (fun _ => (Ones.all (.cons rfl .nil))) (by decide) (.t 1 rfl) (.t 0 rfl) (fun w hA => (hA.okG 0 rfl (by decide) (fun _ => rfl))) rfl rfl h91 (fun _ _ => (.there .here)) ?_; intro a92 c93  -- 8:7 ref.go:199
          refine J.finD rfl rfl (fun _ h => h.to (.cons (.there (.there .here)) .drop)) ?_
          refine JT.pick [11] (by kernel_rfl) (.cons (DStep.of rfl ?_) .nil)
          refine J.app (enc := enI) (xs := ((([] : List Int) ++ ((v46.take (Int.toNat v67)).drop (Int.toNat (0 : Int)))) ++ [v45])) (ys := ((v46.take (Int.toNat (v46.length : Int))).drop (Int.toNat v67))) (Mn := fun a96 c97 => [rowG 3 1 (some (⟨b90, 0, none⟩ : Addr)) [v45].length [v45].length ([v45].flatMap enI), rowG 3 1 a96 (((([] : List Int) ++ ((v46.take (Int.toNat v67)).drop (Int.toNat (0 : Int)))) ++ [v45]) ++ ((v46.take (Int.toNat (v46.length : Int))).drop (Int.toNat v67))).length c97 ((((([] : List Int) ++ ((v46.take (Int.toNat v67)).drop (Int.toNat (0 : Int)))) ++ [v45]) ++ ((v46.take (Int.toNat (v46.length : Int))).drop (Int.toNat v67))).flatMap enI), rowG 3 1 a47 v46.length c48 (v46.flatMap enI)]) rfl rfl rfl rfl Try.underlying33 inf3 rfl (by decide) (fun _ => rfl) (fun _ => (Ones.all (.cons rfl .nil))) (by decide) (.t 0 rfl) (.t 4 rfl) (fun w hA => (subRow_ok (by decide) (fun _ => rfl) (hA.okG 2 rfl (by decide) (fun _ => rfl)) (by have := h94; omega) (by have := h94; omega) (hA.leG 2 rfl))) rfl rfl h95 (fun _ _ => (.there .here)) ?_; intro a96 c97  -- 8:11 ref.go:199
          refine J.finF rfl rfl ?_
          refine JT.pick [12] (by kernel_rfl) (.cons (DStep.of rfl ?_) .nil)
          refine J.keep (.cons 0 rfl (.cons 1 rfl (.cons 2 rfl (.cons 3 rfl (.cons 4 rfl (.cons 5 rfl (.cons 6 rfl (.cons 7 rfl (.cons 8 rfl (.cons 9 rfl (.cons 10 rfl (.cons 11 rfl (.cons 12 rfl (.cons 13 rfl (.cons 15 rfl .nil))))))))))))))) ?_
          refine J.q rfl rfl rfl rfl (Q.assign (.t 0 rfl)) ?_  -- 8:12 ref.go:199
          refine J.finF rfl rfl ?_
          refine JT.end_ ?_
          refine X.inNormal ?_
          refine X.go ?_
          refine C.keep (.cons 0 rfl (.cons 14 rfl (.cons 15 rfl .nil))) ?_
          obtain ⟨h98, H53⟩ := ck_some H53
          refine C.reg ?_
          refine J.q rfl rfl rfl rfl (Q.move (.t 1 rfl)) ?_  -- 4:0 ref.go:194
          refine J.q rfl rfl rfl rfl (Q.add (.t 0 rfl) .c h98) ?_  -- 4:1 ref.go:194
          refine J.keep (.cons 0 rfl (.cons 1 rfl (.cons 2 rfl (.cons 4 rfl .nil)))) ?_
          refine J.q rfl rfl rfl rfl (Q.assign (.t 0 rfl)) ?_  -- 4:2 ref.go:194
          refine J.done ?_
          obtain rfl := Option.some.inj H53
          exact X.nxi ((v45 + (1 : Int)), (((([] : List Int) ++ ((v46.take (Int.toNat v67)).drop (Int.toNat (0 : Int)))) ++ [v45]) ++ ((v46.take (Int.toNat (v46.length : Int))).drop (Int.toNat v67)))) (a96, c97) ho52 (.cons 0 rfl (.cons 3 rfl (.cons 4 rfl .nil))) (fun _ h => h.to (.cons (.there .here) .drop))
        ·
          refine J.litG (enc := enI) (us := [v45]) rfl rfl rfl rfl rfl rfl Try.underlying33 inf3 rfl (by decide) (fun _ => rfl) (.cons (.t 4 rfl) .nil) rfl rfl rfl rfl ?_; intro b90  -- 8:6 ref.go:199
          refine J.finD rfl rfl (fun _ h => h.to (.cons (.there (.there .here)) .drop)) ?_
          refine JT.pick [4] (by kernel_rfl) (.cons (DStep.of rfl ?_) .nil)
          refine J.app (enc := enI) (xs := ([] : List Int)) (ys := ((v46.take (Int.toNat v67)).drop (Int.toNat (0 : Int)))) (Mn := fun a88 c89 => [rowG 3 1 (some (⟨b90, 0, none⟩ : Addr)) [v45].length [v45].length ([v45].flatMap enI), rowG 3 1 a88 (([] : List Int) ++ ((v46.take (Int.toNat v67)).drop (Int.toNat (0 : Int)))).length c89 ((([] : List Int) ++ ((v46.take (Int.toNat v67)).drop (Int.toNat (0 : Int)))).flatMap enI), rowG 3 1 a47 v46.length c48 (v46.flatMap enI)]) rfl rfl rfl rfl Try.underlying33 inf3 rfl (by decide) (fun _ => rfl) (fun _ => (Ones.all (.cons rfl .nil))) (by decide) (.t 1 rfl) (.t 6 rfl) (fun w hA => (subRow_ok (by decide) (fun _ => rfl) (hA.okG 2 rfl (by decide) (fun _ => rfl)) (by have := h86; omega) (by have := h86; omega) (hA.leG 2 rfl))) rfl rfl h87 (fun _ _ => (.there .here)) ?_; intro a88 c89  -- 8:4 ref.go:199
          refine J.finD rfl rfl (fun _ h => h.to (.cons (.there (.there .here)) .drop)) ?_
          refine JT.pick [7] (by kernel_rfl) (.cons (DStep.of rfl ?_) .nil)
          refine J.app (enc := enI) (xs := (([] : List Int) ++ ((v46.take (Int.toNat v67)).drop (Int.toNat (0 : Int))))) (ys := [v45]) (Mn := fun a92 c93 => [rowG 3 1 (some (⟨b90, 0, none⟩ : Addr)) [v45].length [v45].length ([v45].flatMap enI), rowG 3 1 a92 ((([] : List Int) ++ ((v46.take (Int.toNat v67)).drop (Int.toNat (0 : Int)))) ++ [v45]).length c93 (((([] : List Int) ++ ((v46.take (Int.toNat v67)).drop (Int.toNat (0 : Int)))) ++ [v45]).flatMap enI), rowG 3 1 a47 v46.length c48 (v46.flatMap enI)]) rfl rfl rfl rfl Try.underlying33 inf3 rfl (by decide) (fun _ => rfl) (fun _ => (Ones.all (.cons rfl .nil))) (by decide) (.t 0 rfl) (.t 1 rfl) (fun w hA => (hA.okG 0 rfl (by decide) (fun _ => rfl))) rfl rfl h91 (fun _ _ => (.there .here)) ?_; intro a92 c93  -- 8:7 ref.go:199
          refine J.finD rfl rfl (fun _ h => h.to (.cons (.there (.there .here)) .drop)) ?_
          refine JT.pick [11] (by kernel_rfl) (.cons (DStep.of rfl ?_) .nil)
          refine J.app (enc := enI) (xs := ((([] : List Int) ++ ((v46.take (Int.toNat v67)).drop (Int.toNat (0 : Int)))) ++ [v45])) (ys := ((v46.take (Int.toNat (v46.length : Int))).drop (Int.toNat v67))) (Mn := fun a96 c97 => [rowG 3 1 (some (⟨b90, 0, none⟩ : Addr)) [v45].length [v45].length ([v45].flatMap enI), rowG 3 1 a96 (((([] : List Int) ++ ((v46.take (Int.toNat v67)).drop (Int.toNat (0 : Int)))) ++ [v45]) ++ ((v46.take (Int.toNat (v46.length : Int))).drop (Int.toNat v67))).length c97 ((((([] : List Int) ++ ((v46.take (Int.toNat v67)).drop (Int.toNat (0 : Int)))) ++ [v45]) ++ ((v46.take (Int.toNat (v46.length : Int))).drop (Int.toNat v67))).flatMap enI), rowG 3 1 a47 v46.length c48 (v46.flatMap enI)]) rfl rfl rfl rfl Try.underlying33 inf3 rfl (by decide) (fun _ => rfl) (fun _ => (Ones.all (.cons rfl .nil))) (by decide) (.t 0 rfl) (.t 4 rfl) (fun w hA => (subRow_ok (by decide) (fun _ => rfl) (hA.okG 2 rfl (by decide) (fun _ => rfl)) (by have := h94; omega) (by have := h94; omega) (hA.leG 2 rfl))) rfl rfl h95 (fun _ _ => (.there .here)) ?_; intro a96 c97  -- 8:11 ref.go:199
          refine J.finF rfl rfl ?_
          refine JT.pick [12] (by kernel_rfl) (.cons (DStep.of rfl ?_) .nil)
          refine J.keep (.cons 0 rfl (.cons 1 rfl (.cons 2 rfl (.cons 3 rfl (.cons 4 rfl (.cons 5 rfl (.cons 6 rfl (.cons 7 rfl (.cons 8 rfl (.cons 9 rfl (.cons 10 rfl (.cons 11 rfl (.cons 12 rfl (.cons 13 rfl (.cons 15 rfl .nil))))))))))))))) ?_
          refine J.q rfl rfl rfl rfl (Q.assign (.t 0 rfl)) ?_  -- 8:12 ref.go:199
          refine J.finF rfl rfl ?_
          refine JT.end_ ?_
          refine X.inNormal ?_
          refine X.go ?_
          refine C.keep (.cons 0 rfl (.cons 14 rfl (.cons 15 rfl .nil))) ?_
          obtain ⟨h99, H53⟩ := ck_some H53
          refine C.reg ?_
          refine J.q rfl rfl rfl rfl (Q.move (.t 1 rfl)) ?_  -- 4:0 ref.go:194
          refine J.q rfl rfl rfl rfl (Q.add (.t 0 rfl) .c h99) ?_  -- 4:1 ref.go:194
          refine J.keep (.cons 0 rfl (.cons 1 rfl (.cons 2 rfl (.cons 4 rfl .nil)))) ?_
          refine J.q rfl rfl rfl rfl (Q.assign (.t 0 rfl)) ?_  -- 4:2 ref.go:194
          refine J.done ?_
          obtain rfl := Option.some.inj H53
          exact X.nxi ((v45 + (1 : Int)), (((([] : List Int) ++ ((v46.take (Int.toNat v67)).drop (Int.toNat (0 : Int)))) ++ [v45]) ++ ((v46.take (Int.toNat (v46.length : Int))).drop (Int.toNat v67)))) (a96, c97) ho52 (.cons 0 rfl (.cons 3 rfl (.cons 4 rfl .nil))) (fun _ h => h.to (.cons (.there .here) .drop))
      ·
        refine J.litG (enc := enI) (us := [v45]) rfl rfl rfl rfl rfl rfl Try.underlying33 inf3 rfl (by decide) (fun _ => rfl) (.cons (.t 3 rfl) .nil) rfl rfl rfl rfl ?_; intro b90  -- 8:6 ref.go:199
        refine J.finD rfl rfl (fun _ h => h.to (.cons (.there .here) .drop)) ?_
        refine JT.pick [0] (by kernel_rfl) (.cons (DStep.of rfl ?_) .nil)
        refine J.litE (enc := enI) (sz := 1) rfl rfl rfl rfl Try.underlying33 inf3 ?_; intro b85  -- 8:0 ref.go:199
        refine J.finD rfl rfl (fun _ h => h.to (.cons (.there (.there .here)) .drop)) ?_
        refine JT.pick [4] (by kernel_rfl) (.cons (DStep.of rfl ?_) .nil)
        refine J.app (enc := enI) (xs := ([] : List Int)) (ys := ((v46.take (Int.toNat v67)).drop (Int.toNat (0 : Int)))) (Mn := fun a88 c89 => [rowG 3 1 a88 (([] : List Int) ++ ((v46.take (Int.toNat v67)).drop (Int.toNat (0 : Int)))).length c89 ((([] : List Int) ++ ((v46.take (Int.toNat v67)).drop (Int.toNat (0 : Int)))).flatMap enI), rowG 3 1 (some (⟨b90, 0, none⟩ : Addr)) [v45].length [v45].length ([v45].flatMap enI), rowG 3 1 a47 v46.length c48 (v46.flatMap enI)]) rfl rfl rfl rfl Try.underlying33 inf3 rfl (by decide) (fun _ => rfl) (fun _ => (Ones.all (.cons rfl .nil))) (by decide) (.t 0 rfl) (.t 6 rfl) (fun w hA => (subRow_ok (by decide) (fun _ => rfl) (hA.okG 2 rfl (by decide) (fun _ => rfl)) (by have := h86; omega) (by have := h86; omega) (hA.leG 2 rfl))) rfl rfl h87 (fun _ _ => .here) ?_; intro a88 c89  -- 8:4 ref.go:199
        refine J.finD rfl rfl (fun _ h => h.to (.cons (.there (.there .here)) .drop)) ?_
        refine JT.pick [7] (by kernel_rfl) (.cons (DStep.of rfl ?_) .nil)
        refine J.app (enc := enI) (xs := (([] : List Int) ++ ((v46.take (Int.toNat v67)).drop (Int.toNat (0 : Int))))) (ys := [v45]) (Mn := fun a92 c93 => [rowG 3 1 a92 ((([] : List Int) ++ ((v46.take (Int.toNat v67)).drop (Int.toNat (0 : Int)))) ++ [v45]).length c93 (((([] : List Int) ++ ((v46.take (Int.toNat v67)).drop (Int.toNat (0 : Int)))) ++ [v45]).flatMap enI), rowG 3 1 (some (⟨b90, 0, none⟩ : Addr)) [v45].length [v45].length ([v45].flatMap enI), rowG 3 1 a47 v46.length c48 (v46.flatMap enI)]) rfl rfl rfl rfl Try.underlying33 inf3 rfl (by decide) (fun _ => rfl) (fun _ => (Ones.all (.cons rfl .nil))) (by decide) (.t 0 rfl) (.t 2 rfl) (fun w hA => (hA.okG 1 rfl (by decide) (fun _ => rfl))) rfl rfl h91 (fun _ _ => .here) ?_; intro a92 c93  -- 8:7 ref.go:199
        refine J.finD rfl rfl (fun _ h => h.to (.cons (.there (.there .here)) .drop)) ?_
        refine JT.pick [11] (by kernel_rfl) (.cons (DStep.of rfl ?_) .nil)
        refine J.app (enc := enI) (xs := ((([] : List Int) ++ ((v46.take (Int.toNat v67)).drop (Int.toNat (0 : Int)))) ++ [v45])) (ys := ((v46.take (Int.toNat (v46.length : Int))).drop (Int.toNat v67))) (Mn := fun a96 c97 => [rowG 3 1 a96 (((([] : List Int) ++ ((v46.take (Int.toNat v67)).drop (Int.toNat (0 : Int)))) ++ [v45]) ++ ((v46.take (Int.toNat (v46.length : Int))).drop (Int.toNat v67))).length c97 ((((([] : List Int) ++ ((v46.take (Int.toNat v67)).drop (Int.toNat (0 : Int)))) ++ [v45]) ++ ((v46.take (Int.toNat (v46.length : Int))).drop (Int.toNat v67))).flatMap enI), rowG 3 1 (some (⟨b90, 0, none⟩ : Addr)) [v45].length [v45].length ([v45].flatMap enI), rowG 3 1 a47 v46.length c48 (v46.flatMap enI)]) rfl rfl rfl rfl Try.underlying33 inf3 rfl (by decide) (fun _ => rfl) (fun _ => (Ones.all (.cons rfl .nil))) (by decide) (.t 0 rfl) (.t 4 rfl) (fun w hA => (subRow_ok (by decide) (fun _ => rfl) (hA.okG 2 rfl (by decide) (fun _ => rfl)) (by have := h94; omega) (by have := h94; omega) (hA.leG 2 rfl))) rfl rfl h95 (fun _ _ => .here) ?_; intro a96 c97  -- 8:11 ref.go:199
        refine J.finF rfl rfl ?_
        refine JT.pick [12] (by kernel_rfl) (.cons (DStep.of rfl ?_) .nil)
        refine J.keep (.cons 0 rfl (.cons 1 rfl (.cons 2 rfl (.cons 3 rfl (.cons 4 rfl (.cons 5 rfl (.cons 6 rfl (.cons 7 rfl (.cons 8 rfl (.cons 9 rfl (.cons 10 rfl (.cons 11 rfl (.cons 12 rfl (.cons 13 rfl (.cons 15 rfl .nil))))))))))))))) ?_
        refine J.q rfl rfl rfl rfl (Q.assign (.t 0 rfl)) ?_  -- 8:12 ref.go:199
        refine J.finF rfl rfl ?_
        refine JT.end_ ?_
        refine X.inNormal ?_
        refine X.go ?_
        refine C.keep (.cons 0 rfl (.cons 14 rfl (.cons 15 rfl .nil))) ?_
        obtain ⟨h100, H53⟩ := ck_some H53
        refine C.reg ?_
        refine J.q rfl rfl rfl rfl (Q.move (.t 1 rfl)) ?_  -- 4:0 ref.go:194
        refine J.q rfl rfl rfl rfl (Q.add (.t 0 rfl) .c h100) ?_  -- 4:1 ref.go:194
        refine J.keep (.cons 0 rfl (.cons 1 rfl (.cons 2 rfl (.cons 4 rfl .nil)))) ?_
        refine J.q rfl rfl rfl rfl (Q.assign (.t 0 rfl)) ?_  -- 4:2 ref.go:194
        refine J.done ?_
        obtain rfl := Option.some.inj H53
        exact X.nxi ((v45 + (1 : Int)), (((([] : List Int) ++ ((v46.take (Int.toNat v67)).drop (Int.toNat (0 : Int)))) ++ [v45]) ++ ((v46.take (Int.toNat (v46.length : Int))).drop (Int.toNat v67)))) (a96, c97) ho52 (.cons 0 rfl (.cons 3 rfl (.cons 4 rfl .nil))) (fun _ h => h.to (.cons .here .drop))
  ·
    replace H53 := sel_f c54 H53
    refine C.exit ?_
    refine X.thenExit ?_
    obtain rfl := Option.some.inj H53
    obtain rfl : (v45, v46) = t49 := ho52
    try dsimp only at H
    refine X.thenExit ?_
    refine X.inHit ?_
    refine X.go ?_
    refine C.keep (.cons 2 rfl .nil) ?_
    refine C.seq ?_
    refine C.reg ?_
    refine J.q rfl rfl rfl rfl (Q.move (.t 0 rfl)) ?_  -- 9:0 ref.go:201
    refine J.q rfl rfl rfl rfl (Q.assign (.t 0 rfl)) ?_  -- 9:1 ref.go:201
    refine J.end_ ?_
    refine C.keep (.cons 0 rfl .nil) ?_
    refine C.ret ?_
    obtain rfl := Option.some.inj H
    refine X.rets (vs := [Value.slice a47 v46.length c48]) rfl (.t 0 rfl .nil) (fun w' hA => ?_)
    exact PostN.of (a47, c48) trivial hA

noncomputable def F_rShare (c : Cable) (q : (List Int)) (ranks : (List Int)) : Option ((List Int) × Int) := bd (F_rCheck (c)) fun r2 => (sel (decide (r2 ≠ (0 : Int))) (some ((([] : (List Int))), (r2))) (sel ((decide ((q.length : Int) ≠ (c.nodes.length : Int))) || (decide ((ranks.length : Int) ≠ (c.nodes.length : Int)))) (some ((([] : (List Int))), ((17 : Int)))) (bd (iter (σ := Int) (τ := (Int ⊕ ((List Int) × Int))) (fun v15 => sel (decide (v15 < (q.length : Int))) (ix q v15 fun x22 => (ixg ((decide (x22 < (0 : Int))) == false) q v15 fun x25 => (sel ((decide (x22 < (0 : Int))) || (decide ((65536 : Int) < x25))) (some (.inr (.inr ((([] : (List Int))), ((3 : Int)))))) (ck (I64ok (v15 + (1 : Int))) (some (.inl (v15 + (1 : Int)))))))) (some (.inr (.inl v15)))) (0 : Int)) (fun t => thn t (fun v15 => ck (0 ≤ (c.nodes.length : Int) ∧ (c.nodes.length : Int) ≤ 68719476736) (bd (F_rOrder (ranks)) fun r33 => (bd (iter (σ := (Int × (List Int))) (τ := (Int × (List Int))) (fun (v84, v85) => sel (decide (v84 < (r33.length : Int))) (ix r33 v84 fun x94 => (ix q x94 fun x97 => (bd (F_rpath (c) (x94)) fun r100 => (bd (iter (σ := (Int × Int)) (τ := (Int × Int)) (fun (v118, v119) => sel (decide (v118 < (r100.length : Int))) (ix r100 v118 fun x126 => (ix c.nodes x126 fun x129 => (ix r100 v118 fun x132 => (bd (F_rcarried (c) (v85) (x132)) fun r135 => (ck (I64ok (x129.limit - r135)) (ck (I64ok (v118 + (1 : Int))) (some (.inl ((v118 + (1 : Int)), (min v119 (x129.limit - r135))))))))))) (some (.inr (v118, v119)))) ((0 : Int), x97)) (fun (v118, v119) => ix v85 x94 fun x139 => (ck (I64ok (v84 + (1 : Int))) (some (.inl ((v84 + (1 : Int)), (v85.set (Int.toNat x94) v119)))))))))) (some (.inr (v84, v85)))) ((0 : Int), (List.replicate (Int.toNat (c.nodes.length : Int)) (0 : Int)))) (fun (v84, v85) => some ((v85), ((0 : Int)))))))))))
theorem rShare_calls (w : World) (ca : Option Addr) (cc : Nat) (c : Cable) (qa : Option Addr) (qc : Nat) (q : (List Int)) (ranksa : Option Addr) (ranksc : Nat) (ranks : (List Int)) (co : (rowO ca 8 Nd.enc c.nodes).ok w) (cl : c.nodes.length ≤ cc) (qo : (rowO qa 1 enI q).ok w) (ql : q.length ≤ qc) (rankso : (rowO ranksa 1 enI ranks).ok w) (ranksl : ranks.length ≤ ranksc) {r : ((List Int) × Int)} (H : F_rShare c q ranks = some r) : Calls Try.prog 12 [Value.agg (Cable.cells c ca cc).toArray, Value.slice qa q.length qc, Value.slice ranksa ranks.length ranksc].toArray w (PostN (fun _ : (Option Addr × Nat) => True) (fun x => Value.tuple [Value.slice x.1 r.1.length x.2, Value.int .i64 r.2].toArray) (fun x => (rowG 2 1 x.1 r.1.length x.2 (r.1.flatMap enI))) w) := by
  unfold F_rShare at H
  refine Calls.enter Try.func12 rfl rfl rfl ?_
  refine C.conseq (A' := St w no [] [rowO ca 8 Nd.enc c.nodes, rowO qa 1 enI q, rowO ranksa 1 enI ranks]) (fun _ e => by subst e; exact St.init _ _ (okCons co (okCons qo (okCons rankso okNil)))) ?_
  refine C.seq ?_
  refine C.reg ?_
  refine J.box rfl rfl rfl rfl (vs := (Cable.cells c ca cc)) (.t 0 rfl) rfl ?_; intro b1 _  -- 0:0 ref.go:205
  refine J.q rfl rfl rfl rfl (Q.assign .c) ?_  -- 0:1 ref.go:205
  refine J.q rfl rfl rfl rfl (Q.assign .c) ?_  -- 0:2 ref.go:205
  refine J.end_ ?_
  refine C.keep (.cons 2 rfl (.cons 4 rfl (.cons 5 rfl .nil))) ?_
  refine C.seq ?_
  obtain ⟨r2, hr3, H⟩ := bd_some H
  refine C.reg ?_
  refine J.q rfl rfl rfl rfl (Q.loadsV (.t 0 rfl) ⟨Try.isAgg26, Try.sizeOf26⟩ (ldT 3 0 rfl (.cons (.cons (.cons .nil)))) rfl) ?_  -- 1:0 ref.go:206
  refine J.callV rfl rfl rfl rfl (run_static Try.call18 .f (.cons (.t 0 rfl) .nil) rfl) (fun w hA => rCheck_calls w ca cc (c) (hA.okO 0 rfl) cl hr3) ?_  -- 1:1 ref.go:206
  refine J.q rfl rfl rfl rfl (Q.assign (.t 0 rfl)) ?_  -- 1:2 ref.go:206
  refine J.end_ ?_
  refine C.keep (.cons 0 rfl (.cons 3 rfl (.cons 4 rfl (.cons 5 rfl .nil)))) ?_
  refine C.seq ?_
  refine C.seq ?_
  refine C.reg ?_
  refine J.q rfl rfl rfl rfl (Q.move (.t 0 rfl)) ?_  -- 2:0 ref.go:207
  refine J.q rfl rfl rfl rfl (Q.neq (.t 0 rfl) .c) ?_  -- 2:1 ref.go:207
  refine J.end_ ?_
  refine C.keep (.cons 0 rfl (.cons 2 rfl (.cons 3 rfl (.cons 4 rfl (.cons 5 rfl .nil))))) ?_
  refine C.cond (.t 0 rfl) (fun c4 => ?_) (fun c4 => ?_)
  ·
    replace H := sel_t c4 H
    refine C.seq ?_
    refine C.reg ?_
    refine J.q rfl rfl rfl rfl (Q.move (.t 1 rfl)) ?_  -- 3:0 ref.go:208
    refine J.q rfl rfl rfl rfl (Q.assign .c) ?_  -- 3:1 ref.go:208
    refine J.q rfl rfl rfl rfl (Q.assign (.t 1 rfl)) ?_  -- 3:2 ref.go:208
    refine J.end_ ?_
    refine C.keep (.cons 0 rfl (.cons 1 rfl .nil)) ?_
    refine C.ret ?_
    refine X.thenRet ?_
    obtain rfl := Option.some.inj H
    refine X.conv (A := St w no [rowG 2 1 none ([] : (List Int)).length 0 (([] : (List Int)).flatMap enI), bx b1 26 (Cable.cells c ca cc)] [rowO ca 8 Nd.enc c.nodes, rowO qa 1 enI q, rowO ranksa 1 enI ranks]) ?_ (fun _ h => St.newG (e := 2) (sz := 1) h)
    refine X.rets (vs := [Value.slice none ([] : (List Int)).length 0, Value.int .i64 r2]) rfl (.t 1 rfl (.t 0 rfl .nil)) (fun w' hA => ?_)
    exact PostN.of (none, 0) trivial (hA.to (.cons .here .drop))
  ·
    replace H := sel_f c4 H
    refine C.skip ?_
    refine X.go ?_
    refine C.keep (.cons 2 rfl (.cons 3 rfl (.cons 4 rfl .nil))) ?_
    refine C.seq ?_
    refine C.seq ?_
    refine C.reg ?_
    refine J.q rfl rfl rfl rfl (Q.move (.t 1 rfl)) ?_  -- 4:0 ref.go:210
    refine J.q rfl rfl rfl rfl (Q.len Try.underlying32 (.t 0 rfl)) ?_  -- 4:1 ref.go:210
    refine J.q rfl rfl rfl rfl (Q.fa0 2 Try.underlying26 rfl Try.sizeOf24 rfl rfl (.t 2 rfl)) ?_  -- 4:2 ref.go:210
    refine J.q rfl rfl rfl rfl (Q.load (.t 0 rfl) Try.isAgg24 (ldT 1 0 rfl (.skip (.skip (.cons .nil))))) ?_  -- 4:3 ref.go:210
    refine J.q rfl rfl rfl rfl (Q.len Try.underlying24 (.t 0 rfl)) ?_  -- 4:4 ref.go:210
    refine J.q rfl rfl rfl rfl (Q.neq (.t 3 rfl) (.t 0 rfl)) ?_  -- 4:5 ref.go:210
    refine J.q rfl rfl rfl rfl (Q.move (.t 0 rfl)) ?_  -- 4:6 ref.go:210
    refine J.gQ (Gd.one rfl rfl rfl (.t 0 rfl)) rfl rfl rfl (.p 9 rfl .nil) (fun hg => (Q.move (.t 0 rfl))) ?_  -- 4:7 ref.go:210
    refine J.gQ (Gd.one rfl rfl rfl (.t 1 rfl)) rfl rfl rfl (.g 0 rfl .nil) (fun hg => (Q.len Try.underlying33 (.t 0 rfl))) ?_  -- 4:8 ref.go:210
    refine J.gQ (Gd.one rfl rfl rfl (.t 2 rfl)) rfl rfl rfl (.p 9 rfl .nil) (fun hg => (Q.fa0 2 Try.underlying26 rfl Try.sizeOf24 rfl rfl (.t 0 rfl))) ?_  -- 4:9 ref.go:210
    refine J.gQ (Gd.one rfl rfl rfl (.t 3 rfl)) rfl rfl rfl (.g 0 rfl .nil) (fun hg => (Q.load (.t 0 rfl) Try.isAgg24 (ldT 1 0 rfl (.skip (.skip (.cons .nil)))))) ?_  -- 4:10 ref.go:210
    refine J.gQ (Gd.one rfl rfl rfl (.t 4 rfl)) rfl rfl rfl (.g 0 rfl .nil) (fun hg => (Q.len Try.underlying24 (.t 0 rfl))) ?_  -- 4:11 ref.go:210
    refine J.gQ (Gd.one rfl rfl rfl (.t 5 rfl)) rfl rfl rfl (.g 3 rfl (.g 0 rfl .nil)) (fun hg => (Q.neq (.t 0 rfl) (.t 1 rfl))) ?_  -- 4:12 ref.go:210
    refine J.q rfl rfl rfl rfl (Q.or_ (.t 6 rfl) (.t 0 rfl)) ?_  -- 4:13 ref.go:210
    refine J.end_ ?_
    refine C.keep (.cons 0 rfl (.cons 14 rfl (.cons 15 rfl (.cons 16 rfl .nil)))) ?_
    refine C.cond (.t 0 rfl) (fun c5 => ?_) (fun c5 => ?_)
    ·
      replace H := sel_t c5 H
      refine C.seq ?_
      refine C.reg ?_
      refine J.q rfl rfl rfl rfl (Q.assign .c) ?_  -- 5:0 ref.go:211
      refine J.q rfl rfl rfl rfl (Q.assign .c) ?_  -- 5:1 ref.go:211
      refine J.end_ ?_
      refine C.keep (.cons 0 rfl (.cons 1 rfl .nil)) ?_
      refine C.ret ?_
      refine X.thenRet ?_
      obtain rfl := Option.some.inj H
      refine X.conv (A := St w no [rowG 2 1 none ([] : (List Int)).length 0 (([] : (List Int)).flatMap enI), bx b1 26 (Cable.cells c ca cc)] [rowO ca 8 Nd.enc c.nodes, rowO qa 1 enI q, rowO ranksa 1 enI ranks]) ?_ (fun _ h => St.newG (e := 2) (sz := 1) h)
      refine X.rets (vs := [Value.slice none ([] : (List Int)).length 0, Value.int .i64 (17 : Int)]) rfl (.t 1 rfl (.t 0 rfl .nil)) (fun w' hA => ?_)
      exact PostN.of (none, 0) trivial (hA.to (.cons .here .drop))
    ·
      replace H := sel_f c5 H
      refine C.skip ?_
      refine X.go ?_
      refine C.keep (.cons 1 rfl (.cons 2 rfl (.cons 3 rfl .nil))) ?_
      refine C.seq ?_
      refine C.seq ?_
      refine C.reg ?_
      refine J.q rfl rfl rfl rfl (Q.assign .c) ?_  -- 6:0 ref.go:213
      refine J.end_ ?_
      refine C.block ?_
      obtain ⟨t16, ht17, H⟩ := bd_some H
      refine C.it_1 (fun s r => Value.int .i64 s) (fun s r => St w no [bx b1 26 (Cable.cells c ca cc)] [rowO ca 8 Nd.enc c.nodes, rowO qa 1 enI q, rowO ranksa 1 enI ranks]) (0 : Int) () ht17 rfl (fun _ h => h) ?_
      rintro v15 ⟨⟩ o18 H20 ho19
      try dsimp only at H20 ⊢
      refine C.seq ?_
      refine C.seq ?_
      refine C.reg ?_
      refine J.q rfl rfl rfl rfl (Q.move (.t 0 rfl)) ?_  -- 7:0 ref.go:213
      refine J.q rfl rfl rfl rfl (Q.move (.t 3 rfl)) ?_  -- 7:1 ref.go:213
      refine J.q rfl rfl rfl rfl (Q.len Try.underlying32 (.t 0 rfl)) ?_  -- 7:2 ref.go:213
      refine J.q rfl rfl rfl rfl (Q.lss (.t 2 rfl) (.t 0 rfl)) ?_  -- 7:3 ref.go:213
      refine J.end_ ?_
      refine C.keep (.cons 0 rfl (.cons 4 rfl (.cons 5 rfl (.cons 6 rfl (.cons 7 rfl .nil))))) ?_
      refine C.cond (.t 0 rfl) (fun c21 => ?_) (fun c21 => ?_)
      ·
        replace H20 := sel_t c21 H20
        refine C.skip ?_
        refine X.go ?_
        refine C.keep (.cons 1 rfl (.cons 2 rfl (.cons 3 rfl (.cons 4 rfl .nil)))) ?_
        refine C.seq ?_
        refine C.block ?_
        refine C.seq ?_
        obtain ⟨x22, hx23, hi24, H20⟩ := ix_some H20
        obtain ⟨x25, hx26, hi27, H20⟩ := ixg_some H20
        refine C.reg ?_
        refine J.q rfl rfl rfl rfl (Q.move (.t 2 rfl)) ?_  -- 9:0 ref.go:214
        refine J.q rfl rfl rfl rfl (Q.move (.t 1 rfl)) ?_  -- 9:1 ref.go:214
        refine J.q rfl rfl rfl rfl (Q.ixO 1 rfl Try.underlying32 Try.sizeOf2 (.t 1 rfl) (.t 0 rfl) rfl hi24) ?_  -- 9:2 ref.go:214
        refine J.q rfl rfl rfl rfl (Q.load (.t 0 rfl) Try.isAgg2 (ldOa0 1 1 rfl hx23 (.cons .nil))) ?_  -- 9:3 ref.go:214
        refine J.q rfl rfl rfl rfl (Q.lss (.t 0 rfl) .c) ?_  -- 9:4 ref.go:214
        refine J.q rfl rfl rfl rfl (Q.move (.t 0 rfl)) ?_  -- 9:5 ref.go:214
        refine J.gQ (Gd.one rfl rfl rfl (.t 0 rfl)) rfl rfl rfl (.p 8 rfl .nil) (fun hg => (Q.move (.t 0 rfl))) ?_  -- 9:6 ref.go:214
        refine J.gQ (Gd.one rfl rfl rfl (.t 1 rfl)) rfl rfl rfl (.p 7 rfl .nil) (fun hg => (Q.move (.t 0 rfl))) ?_  -- 9:7 ref.go:214
        refine J.gQ (Gd.one rfl rfl rfl (.t 2 rfl)) rfl rfl rfl (.g 1 rfl (.g 0 rfl .nil)) (fun hg => (Q.ixO 1 rfl Try.underlying32 Try.sizeOf2 (.t 0 rfl) (.t 1 rfl) rfl (hi27 hg))) ?_  -- 9:8 ref.go:214
        refine J.gQ (Gd.one rfl rfl rfl (.t 3 rfl)) rfl rfl rfl (.g 0 rfl .nil) (fun hg => (Q.load (.t 0 rfl) Try.isAgg2 (ldOa0 1 1 rfl (hx26 hg) (.cons .nil)))) ?_  -- 9:9 ref.go:214
        refine J.gQ (Gd.one rfl rfl rfl (.t 4 rfl)) rfl rfl rfl (.g 0 rfl .nil) (fun hg => (Q.gtr (.t 0 rfl) .c)) ?_  -- 9:10 ref.go:214
        refine J.q rfl rfl rfl rfl (Q.or_ (.t 5 rfl) (.t 0 rfl)) ?_  -- 9:11 ref.go:214
        refine J.end_ ?_
        refine C.keep (.cons 0 rfl (.cons 12 rfl (.cons 13 rfl (.cons 14 rfl (.cons 15 rfl .nil))))) ?_
        refine C.cond (.t 0 rfl) (fun c28 => ?_) (fun c28 => ?_)
        ·
          replace H20 := sel_t c28 H20
          refine C.seq ?_
          refine C.reg ?_
          refine J.q rfl rfl rfl rfl (Q.assign .c) ?_  -- 10:0 ref.go:215
          refine J.q rfl rfl rfl rfl (Q.assign .c) ?_  -- 10:1 ref.go:215
          refine J.end_ ?_
          refine C.keep (.cons 0 rfl (.cons 1 rfl .nil)) ?_
          refine C.ret ?_
          refine X.inRet ?_
          refine X.thenRet ?_
          refine X.thenRet ?_
          obtain rfl := Option.some.inj H20
          obtain rfl := ho19
          try dsimp only [thn] at H
          refine X.inRet ?_
          refine X.thenRet ?_
          obtain rfl := Option.some.inj H
          refine X.conv (A := St w no [rowG 2 1 none ([] : (List Int)).length 0 (([] : (List Int)).flatMap enI), bx b1 26 (Cable.cells c ca cc)] [rowO ca 8 Nd.enc c.nodes, rowO qa 1 enI q, rowO ranksa 1 enI ranks]) ?_ (fun _ h => St.newG (e := 2) (sz := 1) h)
          refine X.rets (vs := [Value.slice none ([] : (List Int)).length 0, Value.int .i64 (3 : Int)]) rfl (.t 1 rfl (.t 0 rfl .nil)) (fun w' hA => ?_)
          exact PostN.of (none, 0) trivial (hA.to (.cons .here .drop))
        ·
          replace H20 := sel_f c28 H20
          refine C.skip ?_
          refine X.inNormal ?_
          refine X.go ?_
          refine C.keep (.cons 1 rfl (.cons 2 rfl (.cons 3 rfl (.cons 4 rfl .nil)))) ?_
          obtain ⟨h30, H20⟩ := ck_some H20
          refine C.reg ?_
          refine J.q rfl rfl rfl rfl (Q.move (.t 0 rfl)) ?_  -- 8:0 ref.go:213
          refine J.q rfl rfl rfl rfl (Q.add (.t 0 rfl) .c h30) ?_  -- 8:1 ref.go:213
          refine J.keep (.cons 0 rfl (.cons 1 rfl (.cons 3 rfl (.cons 4 rfl (.cons 5 rfl .nil))))) ?_
          refine J.q rfl rfl rfl rfl (Q.assign (.t 0 rfl)) ?_  -- 8:2 ref.go:213
          refine J.done ?_
          obtain rfl := Option.some.inj H20
          exact X.nxi (v15 + (1 : Int)) () ho19 (.cons 0 rfl (.cons 3 rfl (.cons 4 rfl (.cons 5 rfl .nil)))) (fun _ h => h)
      ·
        replace H20 := sel_f c21 H20
        refine C.exit ?_
        refine X.thenExit ?_
        obtain rfl := Option.some.inj H20
        obtain rfl : (Sum.inl v15) = t16 := ho19
        try dsimp only [thn] at H
        refine X.thenExit ?_
        refine X.inHit ?_
        refine X.go ?_
        refine C.keep (.cons 2 rfl (.cons 3 rfl (.cons 4 rfl .nil))) ?_
        refine C.seq ?_
        obtain ⟨h31, H⟩ := ck_some H
        refine C.reg ?_
        refine J.q rfl rfl rfl rfl (Q.fa0 2 Try.underlying26 rfl Try.sizeOf24 rfl rfl (.t 0 rfl)) ?_  -- 11:0 ref.go:218
        refine J.q rfl rfl rfl rfl (Q.load (.t 0 rfl) Try.isAgg24 (ldT 1 0 rfl (.skip (.skip (.cons .nil))))) ?_  -- 11:1 ref.go:218
        refine J.q rfl rfl rfl rfl (Q.len Try.underlying24 (.t 0 rfl)) ?_  -- 11:2 ref.go:218
        refine J.mkG (enc := enI) (z := (0 : Int)) rfl rfl rfl rfl Try.underlying32 inf2 (by decide) (fun _ => rfl) (by decide) (.t 0 rfl) (.t 0 rfl) h31 ?_; intro b32  -- 11:3 ref.go:218
        refine J.q rfl rfl rfl rfl (Q.assign (.t 0 rfl)) ?_  -- 11:4 ref.go:218
        refine J.end_ ?_
        refine C.keep (.cons 0 rfl (.cons 5 rfl (.cons 6 rfl (.cons 7 rfl .nil)))) ?_
        refine C.seq ?_
        obtain ⟨r33, hr34, H⟩ := bd_some H
        refine C.reg ?_
        refine J.q rfl rfl rfl rfl (Q.move (.t 3 rfl)) ?_  -- 12:0 ref.go:219
        refine J.callN rfl rfl rfl rfl (run_static Try.call10 .f (.cons (.t 0 rfl) .nil) rfl) (fun w hA => rOrder_calls w ranksa ranksc (ranks) (hA.okO 2 rfl) ranksl hr34) ?_  -- 12:1 ref.go:219
        rintro ⟨a35, c36⟩ _
        refine J.q rfl rfl rfl rfl (Q.assign (.t 0 rfl)) ?_  -- 12:2 ref.go:219
        refine J.end_ ?_
        refine C.keep (.cons 0 rfl (.cons 3 rfl (.cons 4 rfl (.cons 5 rfl .nil)))) ?_
        refine C.seq ?_
        refine C.seq ?_
        refine C.reg ?_
        refine J.q rfl rfl rfl rfl (Q.assign .c) ?_  -- 13:0 ref.go:220
        refine J.end_ ?_
        refine C.block ?_
        refine C.keep (.cons 0 rfl (.cons 2 rfl (.cons 1 rfl (.cons 3 rfl (.cons 4 rfl .nil))))) ?_
        obtain ⟨t88, ht89, H⟩ := bd_some H
        refine C.it_2 (fun s r => Value.int .i64 s.1) (fun s r => Value.slice r.1 s.2.length r.2) (fun s r => St w no [rowG 3 1 a35 r33.length c36 (r33.flatMap enI), rowG 2 1 r.1 s.2.length r.2 (s.2.flatMap enI), bx b1 26 (Cable.cells c ca cc)] [rowO ca 8 Nd.enc c.nodes, rowO qa 1 enI q, rowO ranksa 1 enI ranks]) ((0 : Int), (List.replicate (Int.toNat (c.nodes.length : Int)) (0 : Int))) ((some (⟨b32, 0, none⟩ : Addr)), (List.replicate (Int.toNat (c.nodes.length : Int)) (0 : Int)).length) ht89 rfl rfl (fun _ h => h) ?_
        rintro ⟨v84, v85⟩ ⟨a86, c87⟩ o90 H92 ho91
        try dsimp only at H92 ⊢
        refine C.seq ?_
        refine C.seq ?_
        refine C.reg ?_
        refine J.q rfl rfl rfl rfl (Q.move (.t 0 rfl)) ?_  -- 14:0 ref.go:220
        refine J.q rfl rfl rfl rfl (Q.move (.t 3 rfl)) ?_  -- 14:1 ref.go:220
        refine J.q rfl rfl rfl rfl (Q.len Try.underlying33 (.t 0 rfl)) ?_  -- 14:2 ref.go:220
        refine J.q rfl rfl rfl rfl (Q.lss (.t 2 rfl) (.t 0 rfl)) ?_  -- 14:3 ref.go:220
        refine J.end_ ?_
        refine C.keep (.cons 0 rfl (.cons 4 rfl (.cons 5 rfl (.cons 6 rfl (.cons 7 rfl (.cons 8 rfl .nil)))))) ?_
        refine C.cond (.t 0 rfl) (fun c93 => ?_) (fun c93 => ?_)
        ·
          replace H92 := sel_t c93 H92
          refine C.skip ?_
          refine X.go ?_
          refine C.keep (.cons 1 rfl (.cons 2 rfl (.cons 3 rfl (.cons 4 rfl (.cons 5 rfl .nil))))) ?_
          refine C.seq ?_
          refine C.block ?_
          refine C.seq ?_
          obtain ⟨x94, hx95, hi96, H92⟩ := ix_some H92
          refine C.reg ?_
          refine J.q rfl rfl rfl rfl (Q.move (.t 2 rfl)) ?_  -- 16:0 ref.go:221
          refine J.q rfl rfl rfl rfl (Q.move (.t 1 rfl)) ?_  -- 16:1 ref.go:221
          refine J.q rfl rfl rfl rfl (Q.ixG 0 rfl Try.underlying33 Try.sizeOf3 (.t 1 rfl) (.t 0 rfl) hi96) ?_  -- 16:2 ref.go:221
          refine J.q rfl rfl rfl rfl (Q.load (.t 0 rfl) Try.isAgg3 (ldGa0 (sz := 1) (enc := enI) 1 0 rfl (by decide) (fun _ => rfl) hx95 (.cons .nil))) ?_  -- 16:3 ref.go:221
          refine J.q rfl rfl rfl rfl (Q.assign (.t 0 rfl)) ?_  -- 16:4 ref.go:221
          refine J.end_ ?_
          refine C.keep (.cons 0 rfl (.cons 5 rfl (.cons 6 rfl (.cons 7 rfl (.cons 8 rfl (.cons 9 rfl .nil)))))) ?_
          refine C.seq ?_
          obtain ⟨x97, hx98, hi99, H92⟩ := ix_some H92
          refine C.reg ?_
          refine J.q rfl rfl rfl rfl (Q.move (.t 5 rfl)) ?_  -- 17:0 ref.go:222
          refine J.q rfl rfl rfl rfl (Q.move (.t 1 rfl)) ?_  -- 17:1 ref.go:222
          refine J.q rfl rfl rfl rfl (Q.ixO 1 rfl Try.underlying32 Try.sizeOf2 (.t 1 rfl) (.t 0 rfl) rfl hi99) ?_  -- 17:2 ref.go:222
          refine J.q rfl rfl rfl rfl (Q.load (.t 0 rfl) Try.isAgg2 (ldOa0 1 1 rfl hx98 (.cons .nil))) ?_  -- 17:3 ref.go:222
          refine J.q rfl rfl rfl rfl (Q.assign (.t 0 rfl)) ?_  -- 17:4 ref.go:222
          refine J.end_ ?_
          refine C.keep (.cons 0 rfl (.cons 5 rfl (.cons 6 rfl (.cons 7 rfl (.cons 8 rfl (.cons 9 rfl (.cons 10 rfl .nil))))))) ?_
          refine C.seq ?_
          obtain ⟨r100, hr101, H92⟩ := bd_some H92
          refine C.reg ?_
          refine J.q rfl rfl rfl rfl (Q.loadsV (.t 5 rfl) ⟨Try.isAgg26, Try.sizeOf26⟩ (ldT 3 2 rfl (.cons (.cons (.cons .nil)))) rfl) ?_  -- 18:0 ref.go:223
          refine J.q rfl rfl rfl rfl (Q.move (.t 2 rfl)) ?_  -- 18:1 ref.go:223
          refine J.callN rfl rfl rfl rfl (run_static Try.call28 .f (.cons (.t 1 rfl) (.cons (.t 0 rfl) .nil)) rfl) (fun w hA => rpath_calls w ca cc (c) (x94) (hA.okO 0 rfl) cl hr101) ?_  -- 18:2 ref.go:223
          rintro ⟨a102, c103⟩ _
          refine J.q rfl rfl rfl rfl (Q.assign (.t 0 rfl)) ?_  -- 18:3 ref.go:223
          refine J.end_ ?_
          refine C.keep (.cons 0 rfl (.cons 4 rfl (.cons 5 rfl (.cons 6 rfl (.cons 7 rfl (.cons 8 rfl (.cons 9 rfl (.cons 10 rfl .nil)))))))) ?_
          refine C.seq ?_
          refine C.seq ?_
          refine C.reg ?_
          refine J.q rfl rfl rfl rfl (Q.assign .c) ?_  -- 19:0 ref.go:224
          refine J.end_ ?_
          refine C.block ?_
          refine C.keep (.cons 0 rfl (.cons 2 rfl (.cons 1 rfl (.cons 3 rfl (.cons 4 rfl (.cons 5 rfl (.cons 6 rfl (.cons 7 rfl (.cons 8 rfl .nil))))))))) ?_
          obtain ⟨t120, ht121, H92⟩ := bd_some H92
          refine C.it_2 (fun s r => Value.int .i64 s.1) (fun s r => Value.int .i64 s.2) (fun s r => St w no [rowG 3 1 a102 r100.length c103 (r100.flatMap enI), rowG 3 1 a35 r33.length c36 (r33.flatMap enI), rowG 2 1 a86 v85.length c87 (v85.flatMap enI), bx b1 26 (Cable.cells c ca cc)] [rowO ca 8 Nd.enc c.nodes, rowO qa 1 enI q, rowO ranksa 1 enI ranks]) ((0 : Int), x97) () ht121 rfl rfl (fun _ h => h) ?_
          rintro ⟨v118, v119⟩ ⟨⟩ o122 H124 ho123
          try dsimp only at H124 ⊢
          refine C.seq ?_
          refine C.seq ?_
          refine C.reg ?_
          refine J.q rfl rfl rfl rfl (Q.move (.t 0 rfl)) ?_  -- 20:0 ref.go:224
          refine J.q rfl rfl rfl rfl (Q.move (.t 3 rfl)) ?_  -- 20:1 ref.go:224
          refine J.q rfl rfl rfl rfl (Q.len Try.underlying33 (.t 0 rfl)) ?_  -- 20:2 ref.go:224
          refine J.q rfl rfl rfl rfl (Q.lss (.t 2 rfl) (.t 0 rfl)) ?_  -- 20:3 ref.go:224
          refine J.end_ ?_
          refine C.keep (.cons 0 rfl (.cons 4 rfl (.cons 5 rfl (.cons 6 rfl (.cons 7 rfl (.cons 8 rfl (.cons 9 rfl (.cons 10 rfl (.cons 11 rfl (.cons 12 rfl .nil)))))))))) ?_
          refine C.cond (.t 0 rfl) (fun c125 => ?_) (fun c125 => ?_)
          ·
            replace H124 := sel_t c125 H124
            refine C.skip ?_
            refine X.go ?_
            refine C.keep (.cons 1 rfl (.cons 2 rfl (.cons 3 rfl (.cons 4 rfl (.cons 5 rfl (.cons 6 rfl (.cons 7 rfl (.cons 8 rfl (.cons 9 rfl .nil))))))))) ?_
            refine C.seq ?_
            refine C.block ?_
            obtain ⟨x126, hx127, hi128, H124⟩ := ix_some H124
            obtain ⟨x129, hx130, hi131, H124⟩ := ix_some H124
            obtain ⟨x132, hx133, hi134, H124⟩ := ix_some H124
            obtain ⟨r135, hr136, H124⟩ := bd_some H124
            obtain ⟨h137, H124⟩ := ck_some H124
            refine C.drawS ?_
            refine JC.q 0 rfl rfl rfl rfl (Q.move (.t 1 rfl)) ?_  -- 22:0 ref.go:225
            refine JC.q 1 rfl rfl rfl rfl (Q.fa0 2 Try.underlying26 rfl Try.sizeOf24 rfl rfl (.t 8 rfl)) ?_  -- 22:1 ref.go:225
            refine JC.q 2 rfl rfl rfl rfl (Q.load (.t 0 rfl) Try.isAgg24 (ldT 1 3 rfl (.skip (.skip (.cons .nil))))) ?_  -- 22:2 ref.go:225
            refine JC.q 3 rfl rfl rfl rfl (Q.move (.t 5 rfl)) ?_  -- 22:3 ref.go:225
            refine JC.q 4 rfl rfl rfl rfl (Q.move (.t 4 rfl)) ?_  -- 22:4 ref.go:225
            refine JC.q 5 rfl rfl rfl rfl (Q.ixG 0 rfl Try.underlying33 Try.sizeOf3 (.t 1 rfl) (.t 0 rfl) hi128) ?_  -- 22:5 ref.go:225
            refine JC.q 6 rfl rfl rfl rfl (Q.load (.t 0 rfl) Try.isAgg3 (ldGa0 (sz := 1) (enc := enI) 1 0 rfl (by decide) (fun _ => rfl) hx127 (.cons .nil))) ?_  -- 22:6 ref.go:225
            refine JC.q 7 rfl rfl rfl rfl (Q.ixO 0 rfl Try.underlying24 Try.sizeOf40 (.t 4 rfl) (.t 0 rfl) rfl hi131) ?_  -- 22:7 ref.go:225
            refine JC.q 8 rfl rfl rfl rfl (Q.fa 3 Try.underlying40 rfl Try.sizeOf2 rfl rfl (.t 0 rfl)) ?_  -- 22:8 ref.go:225
            refine JC.q 9 rfl rfl rfl rfl (Q.load (.t 0 rfl) Try.isAgg2 (ldOa 1 0 rfl hx130 (.skip (.skip (.skip (.cons .nil)))))) ?_  -- 22:9 ref.go:225
            refine JC.q 10 rfl rfl rfl rfl (Q.loadsV (.t 17 rfl) ⟨Try.isAgg26, Try.sizeOf26⟩ (ldT 3 3 rfl (.cons (.cons (.cons .nil)))) rfl) ?_  -- 22:10 ref.go:225
            refine JC.q 11 rfl rfl rfl rfl (Q.move (.t 16 rfl)) ?_  -- 22:11 ref.go:225
            refine JC.q 12 rfl rfl rfl rfl (Q.move (.t 14 rfl)) ?_  -- 22:12 ref.go:225
            refine JC.q 13 rfl rfl rfl rfl (Q.move (.t 13 rfl)) ?_  -- 22:13 ref.go:225
            refine JC.q 14 rfl rfl rfl rfl (Q.ixG 0 rfl Try.underlying33 Try.sizeOf3 (.t 1 rfl) (.t 0 rfl) hi134) ?_  -- 22:14 ref.go:225
            refine JC.q 15 rfl rfl rfl rfl (Q.load (.t 0 rfl) Try.isAgg3 (ldGa0 (sz := 1) (enc := enI) 1 0 rfl (by decide) (fun _ => rfl) hx133 (.cons .nil))) ?_  -- 22:15 ref.go:225
            refine JC.callV 16 rfl rfl rfl rfl (fun D => (run_static Try.call29 .f (.cons (.t 5 rfl) (.cons (.t 4 rfl) (.cons (.t 0 rfl) .nil))) rfl)) (fun w hA => rcarried_calls w ca cc (c) a86 c87 (v85) (x132) (hA.okO 0 rfl) cl (hA.okG 2 rfl (by decide) (fun _ => rfl)) (hA.leG 2 rfl) hr136) ?_  -- 22:16 ref.go:225
            refine JC.q 17 rfl rfl rfl rfl (Q.sub (.t 7 rfl) (.t 0 rfl) h137) ?_  -- 22:17 ref.go:225
            refine JC.q 18 rfl rfl rfl rfl (Q.min2 (.t 17 rfl) (.t 0 rfl)) ?_  -- 22:18 ref.go:225
            refine JC.tail [0, 0, 2, 0, 0, 24, 56, 126, 254, 510, 0, 0, 0, 0, 12288, 28672, 64512, 131070, 262143, 524287] 1 mixed (by kernel_rfl) (by kernel_rfl) (fun _ h => h) ?_
            refine JT.pick [19] (by kernel_rfl) (.cons (DStep.of rfl ?_) .nil)
            refine J.keep (.cons 0 rfl (.cons 1 rfl (.cons 2 rfl (.cons 3 rfl (.cons 4 rfl (.cons 5 rfl (.cons 6 rfl (.cons 7 rfl (.cons 8 rfl (.cons 9 rfl (.cons 10 rfl (.cons 11 rfl (.cons 12 rfl (.cons 13 rfl (.cons 14 rfl (.cons 15 rfl (.cons 16 rfl (.cons 17 rfl (.cons 18 rfl (.cons 19 rfl (.cons 21 rfl (.cons 22 rfl (.cons 23 rfl (.cons 24 rfl (.cons 25 rfl (.cons 26 rfl (.cons 27 rfl .nil))))))))))))))))))))))))))) ?_
            refine J.q rfl rfl rfl rfl (Q.assign (.t 0 rfl)) ?_  -- 22:19 ref.go:225
            refine J.finF rfl rfl ?_
            refine JT.end_ ?_
            refine X.inNormal ?_
            refine X.go ?_
            refine C.keep (.cons 0 rfl (.cons 20 rfl (.cons 21 rfl (.cons 22 rfl (.cons 23 rfl (.cons 24 rfl (.cons 25 rfl (.cons 26 rfl (.cons 27 rfl .nil))))))))) ?_
            obtain ⟨h138, H124⟩ := ck_some H124
            refine C.reg ?_
            refine J.q rfl rfl rfl rfl (Q.move (.t 1 rfl)) ?_  -- 21:0 ref.go:224
            refine J.q rfl rfl rfl rfl (Q.add (.t 0 rfl) .c h138) ?_  -- 21:1 ref.go:224
            refine J.keep (.cons 0 rfl (.cons 1 rfl (.cons 2 rfl (.cons 4 rfl (.cons 5 rfl (.cons 6 rfl (.cons 7 rfl (.cons 8 rfl (.cons 9 rfl (.cons 10 rfl .nil)))))))))) ?_
            refine J.q rfl rfl rfl rfl (Q.assign (.t 0 rfl)) ?_  -- 21:2 ref.go:224
            refine J.done ?_
            obtain rfl := Option.some.inj H124
            exact X.nxi ((v118 + (1 : Int)), (min v119 (x129.limit - r135))) () ho123 (.cons 0 rfl (.cons 3 rfl (.cons 4 rfl (.cons 5 rfl (.cons 6 rfl (.cons 7 rfl (.cons 8 rfl (.cons 9 rfl (.cons 10 rfl .nil))))))))) (fun _ h => h)
          ·
            replace H124 := sel_f c125 H124
            refine C.exit ?_
            refine X.thenExit ?_
            obtain rfl := Option.some.inj H124
            obtain rfl : (v118, v119) = t120 := ho123
            try dsimp only at H92
            refine X.thenExit ?_
            refine X.inHit ?_
            refine X.go ?_
            refine C.keep (.cons 2 rfl (.cons 4 rfl (.cons 5 rfl (.cons 6 rfl (.cons 7 rfl (.cons 8 rfl (.cons 9 rfl .nil))))))) ?_
            obtain ⟨x139, hx140, hi141, H92⟩ := ix_some H92
            refine C.reg ?_
            refine J.q rfl rfl rfl rfl (Q.move (.t 3 rfl)) ?_  -- 23:0 ref.go:227
            refine J.q rfl rfl rfl rfl (Q.move (.t 2 rfl)) ?_  -- 23:1 ref.go:227
            refine J.q rfl rfl rfl rfl (Q.move (.t 2 rfl)) ?_  -- 23:2 ref.go:227
            refine J.q rfl rfl rfl rfl (Q.ixG 2 rfl Try.underlying32 Try.sizeOf2 (.t 2 rfl) (.t 1 rfl) hi141) ?_  -- 23:3 ref.go:227
            refine J.s rfl rfl rfl (S.storeL0 (enc := enI) (u' := v119) (vs := [Value.int .i64 v119]) (.t 0 rfl) (.t 1 rfl) Try.sizeOf2 (fun _ => rfl) rfl rfl (Ones.all (.cons rfl .nil)) hx140 (.cons .nil) (.there (.there .here))) ?_  -- 23:4 ref.go:227
            refine J.keep (L' := [(105, _), (104, _), (103, _), (102, Value.slice a86 (v85.set (Int.toNat x94) v119).length c87), (14, _), (13, _), (12, _), (10, Value.slice a86 (v85.set (Int.toNat x94) v119).length c87), (11, _), (3, _), (1, _)]) (.cons 0 rfl (.cons 1 rfl (.cons 2 rfl (.cons 3 sl_set (.cons 4 rfl (.cons 5 rfl (.cons 6 rfl (.cons 7 sl_set (.cons 8 rfl (.cons 9 rfl (.cons 10 rfl .nil))))))))))) ?_
            refine J.done ?_
            refine X.inNormal ?_
            refine X.go ?_
            refine C.keep (.cons 6 rfl (.cons 7 rfl (.cons 8 rfl (.cons 9 rfl (.cons 10 rfl .nil))))) ?_
            obtain ⟨h142, H92⟩ := ck_some H92
            refine C.reg ?_
            refine J.q rfl rfl rfl rfl (Q.move (.t 0 rfl)) ?_  -- 15:0 ref.go:220
            refine J.q rfl rfl rfl rfl (Q.add (.t 0 rfl) .c h142) ?_  -- 15:1 ref.go:220
            refine J.keep (.cons 0 rfl (.cons 1 rfl (.cons 3 rfl (.cons 4 rfl (.cons 5 rfl (.cons 6 rfl .nil)))))) ?_
            refine J.q rfl rfl rfl rfl (Q.assign (.t 0 rfl)) ?_  -- 15:2 ref.go:220
            refine J.done ?_
            obtain rfl := Option.some.inj H92
            exact X.nxi ((v84 + (1 : Int)), (v85.set (Int.toNat x94) v119)) (a86, c87) ho91 (.cons 0 rfl (.cons 3 rfl (.cons 4 rfl (.cons 5 rfl (.cons 6 rfl .nil))))) (fun _ h => h.to (.cons (.there .here) (.cons (.there .here) (.cons (.there .here) .drop))))
        ·
          replace H92 := sel_f c93 H92
          refine C.exit ?_
          refine X.thenExit ?_
          obtain rfl := Option.some.inj H92
          obtain rfl : (v84, v85) = t88 := ho91
          try dsimp only at H
          refine X.thenExit ?_
          refine X.inHit ?_
          refine X.go ?_
          refine C.keep (.cons 2 rfl .nil) ?_
          refine C.seq ?_
          refine C.reg ?_
          refine J.q rfl rfl rfl rfl (Q.move (.t 0 rfl)) ?_  -- 24:0 ref.go:229
          refine J.q rfl rfl rfl rfl (Q.assign (.t 0 rfl)) ?_  -- 24:1 ref.go:229
          refine J.q rfl rfl rfl rfl (Q.assign .c) ?_  -- 24:2 ref.go:229
          refine J.end_ ?_
          refine C.keep (.cons 0 rfl (.cons 1 rfl .nil)) ?_
          refine C.ret ?_
          obtain rfl := Option.some.inj H
          refine X.rets (vs := [Value.slice a86 v85.length c87, Value.int .i64 (0 : Int)]) rfl (.t 1 rfl (.t 0 rfl .nil)) (fun w' hA => ?_)
          exact PostN.of (a86, c87) trivial (hA.to (.cons (.there .here) .drop))

noncomputable def F_rCheckShare (c : Cable) (g : (List Int)) : Option (Int × Int) := bd (F_rCheck (c)) fun r2 => (sel (decide (r2 ≠ (0 : Int))) (some (((0 : Int)), (r2))) (sel (decide ((g.length : Int) ≠ (c.nodes.length : Int))) (some (((0 : Int)), ((17 : Int)))) (bd (iter (σ := Int) (τ := (Int ⊕ (Int × Int))) (fun v15 => sel (decide (v15 < (g.length : Int))) (ix g v15 fun x22 => (ixg ((decide (x22 < (0 : Int))) == false) g v15 fun x25 => (sel ((decide (x22 < (0 : Int))) || (decide ((65536 : Int) < x25))) (some (.inr (.inr (((0 : Int)), ((3 : Int)))))) (ck (I64ok (v15 + (1 : Int))) (some (.inl (v15 + (1 : Int)))))))) (some (.inr (.inl v15)))) (0 : Int)) (fun t => thn t (fun v15 => bd (iter (σ := Int) (τ := (Int ⊕ (Int × Int))) (fun v39 => sel (decide (v39 < (c.nodes.length : Int))) (bd (F_rcarried (c) (g) (v39)) fun r46 => (ix c.nodes v39 fun x48 => (sel (decide (x48.limit < r46)) (some (.inr (.inr ((v39), ((18 : Int)))))) (ck (I64ok (v39 + (1 : Int))) (some (.inl (v39 + (1 : Int)))))))) (some (.inr (.inl v39)))) (0 : Int)) (fun t => thn t (fun v39 => some (((0 : Int)), ((0 : Int))))))))))
theorem rCheckShare_calls (w : World) (ca : Option Addr) (cc : Nat) (c : Cable) (ga : Option Addr) (gc : Nat) (g : (List Int)) (co : (rowO ca 8 Nd.enc c.nodes).ok w) (cl : c.nodes.length ≤ cc) (go : (rowO ga 1 enI g).ok w) (gl : g.length ≤ gc) {r : (Int × Int)} (H : F_rCheckShare c g = some r) : Calls Try.prog 14 [Value.agg (Cable.cells c ca cc).toArray, Value.slice ga g.length gc].toArray w (PostV (Value.tuple [Value.int .i64 r.1, Value.int .i64 r.2].toArray) w) := by
  unfold F_rCheckShare at H
  refine Calls.enter Try.func14 rfl rfl rfl ?_
  refine C.conseq (A' := St w no [] [rowO ca 8 Nd.enc c.nodes, rowO ga 1 enI g]) (fun _ e => by subst e; exact St.init _ _ (okCons co (okCons go okNil))) ?_
  refine C.seq ?_
  refine C.reg ?_
  refine J.box rfl rfl rfl rfl (vs := (Cable.cells c ca cc)) (.t 0 rfl) rfl ?_; intro b1 _  -- 0:0 ref.go:233
  refine J.q rfl rfl rfl rfl (Q.assign .c) ?_  -- 0:1 ref.go:233
  refine J.q rfl rfl rfl rfl (Q.assign .c) ?_  -- 0:2 ref.go:233
  refine J.end_ ?_
  refine C.keep (.cons 2 rfl (.cons 4 rfl .nil)) ?_
  refine C.seq ?_
  obtain ⟨r2, hr3, H⟩ := bd_some H
  refine C.reg ?_
  refine J.q rfl rfl rfl rfl (Q.loadsV (.t 0 rfl) ⟨Try.isAgg26, Try.sizeOf26⟩ (ldT 3 0 rfl (.cons (.cons (.cons .nil)))) rfl) ?_  -- 1:0 ref.go:234
  refine J.callV rfl rfl rfl rfl (run_static Try.call18 .f (.cons (.t 0 rfl) .nil) rfl) (fun w hA => rCheck_calls w ca cc (c) (hA.okO 0 rfl) cl hr3) ?_  -- 1:1 ref.go:234
  refine J.q rfl rfl rfl rfl (Q.assign (.t 0 rfl)) ?_  -- 1:2 ref.go:234
  refine J.end_ ?_
  refine C.keep (.cons 0 rfl (.cons 3 rfl (.cons 4 rfl .nil))) ?_
  refine C.seq ?_
  refine C.seq ?_
  refine C.reg ?_
  refine J.q rfl rfl rfl rfl (Q.move (.t 0 rfl)) ?_  -- 2:0 ref.go:235
  refine J.q rfl rfl rfl rfl (Q.neq (.t 0 rfl) .c) ?_  -- 2:1 ref.go:235
  refine J.end_ ?_
  refine C.keep (.cons 0 rfl (.cons 2 rfl (.cons 3 rfl (.cons 4 rfl .nil)))) ?_
  refine C.cond (.t 0 rfl) (fun c4 => ?_) (fun c4 => ?_)
  ·
    replace H := sel_t c4 H
    refine C.seq ?_
    refine C.reg ?_
    refine J.q rfl rfl rfl rfl (Q.move (.t 1 rfl)) ?_  -- 3:0 ref.go:236
    refine J.q rfl rfl rfl rfl (Q.assign .c) ?_  -- 3:1 ref.go:236
    refine J.q rfl rfl rfl rfl (Q.assign (.t 1 rfl)) ?_  -- 3:2 ref.go:236
    refine J.end_ ?_
    refine C.keep (.cons 0 rfl (.cons 1 rfl .nil)) ?_
    refine C.ret ?_
    refine X.thenRet ?_
    obtain rfl := Option.some.inj H
    refine X.rets (vs := [Value.int .i64 (0 : Int), Value.int .i64 r2]) rfl (.t 1 rfl (.t 0 rfl .nil)) (fun w' hA => ?_)
    exact PostV.of hA
  ·
    replace H := sel_f c4 H
    refine C.skip ?_
    refine X.go ?_
    refine C.keep (.cons 2 rfl (.cons 3 rfl .nil)) ?_
    refine C.seq ?_
    refine C.seq ?_
    refine C.reg ?_
    refine J.q rfl rfl rfl rfl (Q.move (.t 1 rfl)) ?_  -- 4:0 ref.go:238
    refine J.q rfl rfl rfl rfl (Q.len Try.underlying32 (.t 0 rfl)) ?_  -- 4:1 ref.go:238
    refine J.q rfl rfl rfl rfl (Q.fa0 2 Try.underlying26 rfl Try.sizeOf24 rfl rfl (.t 2 rfl)) ?_  -- 4:2 ref.go:238
    refine J.q rfl rfl rfl rfl (Q.load (.t 0 rfl) Try.isAgg24 (ldT 1 0 rfl (.skip (.skip (.cons .nil))))) ?_  -- 4:3 ref.go:238
    refine J.q rfl rfl rfl rfl (Q.len Try.underlying24 (.t 0 rfl)) ?_  -- 4:4 ref.go:238
    refine J.q rfl rfl rfl rfl (Q.neq (.t 3 rfl) (.t 0 rfl)) ?_  -- 4:5 ref.go:238
    refine J.end_ ?_
    refine C.keep (.cons 0 rfl (.cons 6 rfl (.cons 7 rfl .nil))) ?_
    refine C.cond (.t 0 rfl) (fun c5 => ?_) (fun c5 => ?_)
    ·
      replace H := sel_t c5 H
      refine C.seq ?_
      refine C.reg ?_
      refine J.q rfl rfl rfl rfl (Q.assign .c) ?_  -- 5:0 ref.go:239
      refine J.q rfl rfl rfl rfl (Q.assign .c) ?_  -- 5:1 ref.go:239
      refine J.end_ ?_
      refine C.keep (.cons 0 rfl (.cons 1 rfl .nil)) ?_
      refine C.ret ?_
      refine X.thenRet ?_
      obtain rfl := Option.some.inj H
      refine X.rets (vs := [Value.int .i64 (0 : Int), Value.int .i64 (17 : Int)]) rfl (.t 1 rfl (.t 0 rfl .nil)) (fun w' hA => ?_)
      exact PostV.of hA
    ·
      replace H := sel_f c5 H
      refine C.skip ?_
      refine X.go ?_
      refine C.keep (.cons 1 rfl (.cons 2 rfl .nil)) ?_
      refine C.seq ?_
      refine C.seq ?_
      refine C.reg ?_
      refine J.q rfl rfl rfl rfl (Q.assign .c) ?_  -- 6:0 ref.go:241
      refine J.end_ ?_
      refine C.block ?_
      obtain ⟨t16, ht17, H⟩ := bd_some H
      refine C.it_1 (fun s r => Value.int .i64 s) (fun s r => St w no [bx b1 26 (Cable.cells c ca cc)] [rowO ca 8 Nd.enc c.nodes, rowO ga 1 enI g]) (0 : Int) () ht17 rfl (fun _ h => h) ?_
      rintro v15 ⟨⟩ o18 H20 ho19
      try dsimp only at H20 ⊢
      refine C.seq ?_
      refine C.seq ?_
      refine C.reg ?_
      refine J.q rfl rfl rfl rfl (Q.move (.t 0 rfl)) ?_  -- 7:0 ref.go:241
      refine J.q rfl rfl rfl rfl (Q.move (.t 3 rfl)) ?_  -- 7:1 ref.go:241
      refine J.q rfl rfl rfl rfl (Q.len Try.underlying32 (.t 0 rfl)) ?_  -- 7:2 ref.go:241
      refine J.q rfl rfl rfl rfl (Q.lss (.t 2 rfl) (.t 0 rfl)) ?_  -- 7:3 ref.go:241
      refine J.end_ ?_
      refine C.keep (.cons 0 rfl (.cons 4 rfl (.cons 5 rfl (.cons 6 rfl .nil)))) ?_
      refine C.cond (.t 0 rfl) (fun c21 => ?_) (fun c21 => ?_)
      ·
        replace H20 := sel_t c21 H20
        refine C.skip ?_
        refine X.go ?_
        refine C.keep (.cons 1 rfl (.cons 2 rfl (.cons 3 rfl .nil))) ?_
        refine C.seq ?_
        refine C.block ?_
        refine C.seq ?_
        obtain ⟨x22, hx23, hi24, H20⟩ := ix_some H20
        obtain ⟨x25, hx26, hi27, H20⟩ := ixg_some H20
        refine C.reg ?_
        refine J.q rfl rfl rfl rfl (Q.move (.t 2 rfl)) ?_  -- 9:0 ref.go:242
        refine J.q rfl rfl rfl rfl (Q.move (.t 1 rfl)) ?_  -- 9:1 ref.go:242
        refine J.q rfl rfl rfl rfl (Q.ixO 1 rfl Try.underlying32 Try.sizeOf2 (.t 1 rfl) (.t 0 rfl) rfl hi24) ?_  -- 9:2 ref.go:242
        refine J.q rfl rfl rfl rfl (Q.load (.t 0 rfl) Try.isAgg2 (ldOa0 1 1 rfl hx23 (.cons .nil))) ?_  -- 9:3 ref.go:242
        refine J.q rfl rfl rfl rfl (Q.lss (.t 0 rfl) .c) ?_  -- 9:4 ref.go:242
        refine J.q rfl rfl rfl rfl (Q.move (.t 0 rfl)) ?_  -- 9:5 ref.go:242
        refine J.gQ (Gd.one rfl rfl rfl (.t 0 rfl)) rfl rfl rfl (.p 8 rfl .nil) (fun hg => (Q.move (.t 0 rfl))) ?_  -- 9:6 ref.go:242
        refine J.gQ (Gd.one rfl rfl rfl (.t 1 rfl)) rfl rfl rfl (.p 7 rfl .nil) (fun hg => (Q.move (.t 0 rfl))) ?_  -- 9:7 ref.go:242
        refine J.gQ (Gd.one rfl rfl rfl (.t 2 rfl)) rfl rfl rfl (.g 1 rfl (.g 0 rfl .nil)) (fun hg => (Q.ixO 1 rfl Try.underlying32 Try.sizeOf2 (.t 0 rfl) (.t 1 rfl) rfl (hi27 hg))) ?_  -- 9:8 ref.go:242
        refine J.gQ (Gd.one rfl rfl rfl (.t 3 rfl)) rfl rfl rfl (.g 0 rfl .nil) (fun hg => (Q.load (.t 0 rfl) Try.isAgg2 (ldOa0 1 1 rfl (hx26 hg) (.cons .nil)))) ?_  -- 9:9 ref.go:242
        refine J.gQ (Gd.one rfl rfl rfl (.t 4 rfl)) rfl rfl rfl (.g 0 rfl .nil) (fun hg => (Q.gtr (.t 0 rfl) .c)) ?_  -- 9:10 ref.go:242
        refine J.q rfl rfl rfl rfl (Q.or_ (.t 5 rfl) (.t 0 rfl)) ?_  -- 9:11 ref.go:242
        refine J.end_ ?_
        refine C.keep (.cons 0 rfl (.cons 12 rfl (.cons 13 rfl (.cons 14 rfl .nil)))) ?_
        refine C.cond (.t 0 rfl) (fun c28 => ?_) (fun c28 => ?_)
        ·
          replace H20 := sel_t c28 H20
          refine C.seq ?_
          refine C.reg ?_
          refine J.q rfl rfl rfl rfl (Q.assign .c) ?_  -- 10:0 ref.go:243
          refine J.q rfl rfl rfl rfl (Q.assign .c) ?_  -- 10:1 ref.go:243
          refine J.end_ ?_
          refine C.keep (.cons 0 rfl (.cons 1 rfl .nil)) ?_
          refine C.ret ?_
          refine X.inRet ?_
          refine X.thenRet ?_
          refine X.thenRet ?_
          obtain rfl := Option.some.inj H20
          obtain rfl := ho19
          try dsimp only [thn] at H
          refine X.inRet ?_
          refine X.thenRet ?_
          obtain rfl := Option.some.inj H
          refine X.rets (vs := [Value.int .i64 (0 : Int), Value.int .i64 (3 : Int)]) rfl (.t 1 rfl (.t 0 rfl .nil)) (fun w' hA => ?_)
          exact PostV.of hA
        ·
          replace H20 := sel_f c28 H20
          refine C.skip ?_
          refine X.inNormal ?_
          refine X.go ?_
          refine C.keep (.cons 1 rfl (.cons 2 rfl (.cons 3 rfl .nil))) ?_
          obtain ⟨h30, H20⟩ := ck_some H20
          refine C.reg ?_
          refine J.q rfl rfl rfl rfl (Q.move (.t 0 rfl)) ?_  -- 8:0 ref.go:241
          refine J.q rfl rfl rfl rfl (Q.add (.t 0 rfl) .c h30) ?_  -- 8:1 ref.go:241
          refine J.keep (.cons 0 rfl (.cons 1 rfl (.cons 3 rfl (.cons 4 rfl .nil)))) ?_
          refine J.q rfl rfl rfl rfl (Q.assign (.t 0 rfl)) ?_  -- 8:2 ref.go:241
          refine J.done ?_
          obtain rfl := Option.some.inj H20
          exact X.nxi (v15 + (1 : Int)) () ho19 (.cons 0 rfl (.cons 3 rfl (.cons 4 rfl .nil))) (fun _ h => h)
      ·
        replace H20 := sel_f c21 H20
        refine C.exit ?_
        refine X.thenExit ?_
        obtain rfl := Option.some.inj H20
        obtain rfl : (Sum.inl v15) = t16 := ho19
        try dsimp only [thn] at H
        refine X.thenExit ?_
        refine X.inHit ?_
        refine X.go ?_
        refine C.keep (.cons 2 rfl (.cons 3 rfl .nil)) ?_
        refine C.seq ?_
        refine C.seq ?_
        refine C.reg ?_
        refine J.q rfl rfl rfl rfl (Q.assign .c) ?_  -- 11:0 ref.go:246
        refine J.end_ ?_
        refine C.block ?_
        obtain ⟨t40, ht41, H⟩ := bd_some H
        refine C.it_1 (fun s r => Value.int .i64 s) (fun s r => St w no [bx b1 26 (Cable.cells c ca cc)] [rowO ca 8 Nd.enc c.nodes, rowO ga 1 enI g]) (0 : Int) () ht41 rfl (fun _ h => h) ?_
        rintro v39 ⟨⟩ o42 H44 ho43
        try dsimp only at H44 ⊢
        refine C.seq ?_
        refine C.seq ?_
        refine C.reg ?_
        refine J.q rfl rfl rfl rfl (Q.move (.t 0 rfl)) ?_  -- 12:0 ref.go:246
        refine J.q rfl rfl rfl rfl (Q.fa0 2 Try.underlying26 rfl Try.sizeOf24 rfl rfl (.t 2 rfl)) ?_  -- 12:1 ref.go:246
        refine J.q rfl rfl rfl rfl (Q.load (.t 0 rfl) Try.isAgg24 (ldT 1 0 rfl (.skip (.skip (.cons .nil))))) ?_  -- 12:2 ref.go:246
        refine J.q rfl rfl rfl rfl (Q.len Try.underlying24 (.t 0 rfl)) ?_  -- 12:3 ref.go:246
        refine J.q rfl rfl rfl rfl (Q.lss (.t 3 rfl) (.t 0 rfl)) ?_  -- 12:4 ref.go:246
        refine J.end_ ?_
        refine C.keep (.cons 0 rfl (.cons 5 rfl (.cons 6 rfl (.cons 7 rfl .nil)))) ?_
        refine C.cond (.t 0 rfl) (fun c45 => ?_) (fun c45 => ?_)
        ·
          replace H44 := sel_t c45 H44
          refine C.skip ?_
          refine X.go ?_
          refine C.keep (.cons 1 rfl (.cons 2 rfl (.cons 3 rfl .nil))) ?_
          refine C.seq ?_
          refine C.block ?_
          refine C.seq ?_
          obtain ⟨r46, hr47, H44⟩ := bd_some H44
          obtain ⟨x48, hx49, hi50, H44⟩ := ix_some H44
          refine C.drawS ?_
          refine JC.q 0 rfl rfl rfl rfl (Q.loadsV (.t 1 rfl) ⟨Try.isAgg26, Try.sizeOf26⟩ (ldT 3 0 rfl (.cons (.cons (.cons .nil)))) rfl) ?_  -- 14:0 ref.go:247
          refine JC.q 1 rfl rfl rfl rfl (Q.move (.t 3 rfl)) ?_  -- 14:1 ref.go:247
          refine JC.q 2 rfl rfl rfl rfl (Q.move (.t 2 rfl)) ?_  -- 14:2 ref.go:247
          refine JC.callV 3 rfl rfl rfl rfl (fun D => (run_static Try.call29 .f (.cons (.t 2 rfl) (.cons (.t 1 rfl) (.cons (.t 0 rfl) .nil))) rfl)) (fun w hA => rcarried_calls w ca cc (c) ga gc (g) (v39) (hA.okO 0 rfl) cl (hA.okO 1 rfl) gl hr47) ?_  -- 14:3 ref.go:247
          refine JC.q 4 rfl rfl rfl rfl (Q.fa0 2 Try.underlying26 rfl Try.sizeOf24 rfl rfl (.t 5 rfl)) ?_  -- 14:4 ref.go:247
          refine JC.q 5 rfl rfl rfl rfl (Q.load (.t 0 rfl) Try.isAgg24 (ldT 1 0 rfl (.skip (.skip (.cons .nil))))) ?_  -- 14:5 ref.go:247
          refine JC.q 6 rfl rfl rfl rfl (Q.move (.t 6 rfl)) ?_  -- 14:6 ref.go:247
          refine JC.q 7 rfl rfl rfl rfl (Q.ixO 0 rfl Try.underlying24 Try.sizeOf40 (.t 1 rfl) (.t 0 rfl) rfl hi50) ?_  -- 14:7 ref.go:247
          refine JC.q 8 rfl rfl rfl rfl (Q.fa 3 Try.underlying40 rfl Try.sizeOf2 rfl rfl (.t 0 rfl)) ?_  -- 14:8 ref.go:247
          refine JC.q 9 rfl rfl rfl rfl (Q.load (.t 0 rfl) Try.isAgg2 (ldOa 1 0 rfl hx49 (.skip (.skip (.skip (.cons .nil)))))) ?_  -- 14:9 ref.go:247
          refine JC.q 10 rfl rfl rfl rfl (Q.gtr (.t 6 rfl) (.t 0 rfl)) ?_  -- 14:10 ref.go:247
          refine JC.tail [0, 0, 0, 7, 0, 16, 0, 112, 240, 496, 1023] 0 mixed (by kernel_rfl) (by kernel_rfl) (fun _ h => h) ?_
          refine JT.end_ ?_
          refine X.go ?_
          refine C.keep (.cons 0 rfl (.cons 11 rfl (.cons 12 rfl (.cons 13 rfl .nil)))) ?_
          refine C.cond (.t 0 rfl) (fun c51 => ?_) (fun c51 => ?_)
          ·
            replace H44 := sel_t c51 H44
            refine C.seq ?_
            refine C.reg ?_
            refine J.q rfl rfl rfl rfl (Q.move (.t 1 rfl)) ?_  -- 15:0 ref.go:248
            refine J.q rfl rfl rfl rfl (Q.assign (.t 0 rfl)) ?_  -- 15:1 ref.go:248
            refine J.q rfl rfl rfl rfl (Q.assign .c) ?_  -- 15:2 ref.go:248
            refine J.end_ ?_
            refine C.keep (.cons 0 rfl (.cons 1 rfl .nil)) ?_
            refine C.ret ?_
            refine X.inRet ?_
            refine X.thenRet ?_
            refine X.thenRet ?_
            obtain rfl := Option.some.inj H44
            obtain rfl := ho43
            try dsimp only [thn] at H
            refine X.inRet ?_
            refine X.thenRet ?_
            obtain rfl := Option.some.inj H
            refine X.rets (vs := [Value.int .i64 v39, Value.int .i64 (18 : Int)]) rfl (.t 1 rfl (.t 0 rfl .nil)) (fun w' hA => ?_)
            exact PostV.of hA
          ·
            replace H44 := sel_f c51 H44
            refine C.skip ?_
            refine X.inNormal ?_
            refine X.go ?_
            refine C.keep (.cons 1 rfl (.cons 2 rfl (.cons 3 rfl .nil))) ?_
            obtain ⟨h53, H44⟩ := ck_some H44
            refine C.reg ?_
            refine J.q rfl rfl rfl rfl (Q.move (.t 0 rfl)) ?_  -- 13:0 ref.go:246
            refine J.q rfl rfl rfl rfl (Q.add (.t 0 rfl) .c h53) ?_  -- 13:1 ref.go:246
            refine J.keep (.cons 0 rfl (.cons 1 rfl (.cons 3 rfl (.cons 4 rfl .nil)))) ?_
            refine J.q rfl rfl rfl rfl (Q.assign (.t 0 rfl)) ?_  -- 13:2 ref.go:246
            refine J.done ?_
            obtain rfl := Option.some.inj H44
            exact X.nxi (v39 + (1 : Int)) () ho43 (.cons 0 rfl (.cons 3 rfl (.cons 4 rfl .nil))) (fun _ h => h)
        ·
          replace H44 := sel_f c45 H44
          refine C.exit ?_
          refine X.thenExit ?_
          obtain rfl := Option.some.inj H44
          obtain rfl : (Sum.inl v39) = t40 := ho43
          try dsimp only [thn] at H
          refine X.thenExit ?_
          refine X.inHit ?_
          refine X.go ?_
          refine C.keep .nil ?_
          refine C.seq ?_
          refine C.reg ?_
          refine J.q rfl rfl rfl rfl (Q.assign .c) ?_  -- 16:0 ref.go:251
          refine J.q rfl rfl rfl rfl (Q.assign .c) ?_  -- 16:1 ref.go:251
          refine J.end_ ?_
          refine C.ret ?_
          obtain rfl := Option.some.inj H
          refine X.rets (vs := [Value.int .i64 (0 : Int), Value.int .i64 (0 : Int)]) rfl (.t 1 rfl (.t 0 rfl .nil)) (fun w' hA => ?_)
          exact PostV.of hA

end Go.Proofs
