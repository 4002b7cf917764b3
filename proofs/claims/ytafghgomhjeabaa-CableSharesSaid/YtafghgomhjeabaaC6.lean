/- cable: the laws, by print -/
import Derived.Test.YtafghgomhjeabaaC5
import Derived.Test.YtafghgomhjeabaaProg
set_option linter.unusedVariables false
set_option linter.unusedSimpArgs false
namespace Go.Proofs
open Go Go.J Go.RowKit Go.Cab
set_option maxRecDepth 4096
set_option linter.unusedSimpArgs false
set_option linter.unusedVariables false
theorem inf40 : Inf Try.prog 40 [.int .i64 0, .int .i64 0, .int .i64 0, .int .i64 0, .int .i64 0, .int .i64 0, .int .i64 0, .int .i64 0] 64 := ⟨Try.t40, .agg #[.int .i64 0, .int .i64 0, .int .i64 0, .int .i64 0, .int .i64 0, .int .i64 0, .int .i64 0, .int .i64 0], by kernel_rfl, by kernel_rfl, rfl, rfl, rfl⟩
theorem stb26 : StB Try.prog 26 [.int .i64 0, .int .i64 0, .slice none 0 0] [(0, 2), (2, 1)] := .struct Try.t26 (by kernel_rfl) (by kernel_rfl) Try.underlying26 (by kernel_rfl)
theorem stb40 : StB Try.prog 40 [.int .i64 0, .int .i64 0, .int .i64 0, .int .i64 0, .int .i64 0, .int .i64 0, .int .i64 0, .int .i64 0] [(0, 1), (1, 2), (3, 1), (4, 2), (6, 1), (7, 1)] := .struct Try.t40 (by kernel_rfl) (by kernel_rfl) Try.underlying40 (by kernel_rfl)

noncomputable def F_ints (a : (List Int)) (b : (List Int)) : Option Bool := sel (decide ((a.length : Int) ≠ (b.length : Int))) (some (false)) (bd (iter (σ := Int) (τ := (Int ⊕ Bool)) (fun v11 => sel (decide (v11 < (a.length : Int))) (ix a v11 fun x18 => (ix b v11 fun x21 => (sel (decide (x18 ≠ x21)) (some (.inr (.inr (false)))) (ck (I64ok (v11 + (1 : Int))) (some (.inl (v11 + (1 : Int)))))))) (some (.inr (.inl v11)))) (0 : Int)) (fun t => thn t (fun v11 => some (true))))
theorem ints_calls (w : World) (aa : Option Addr) (ac : Nat) (a : (List Int)) (ba : Option Addr) (bc : Nat) (b : (List Int)) (ao : (rowO aa 1 enI a).ok w) (al : a.length ≤ ac) (bo : (rowO ba 1 enI b).ok w) (bl : b.length ≤ bc) {r : Bool} (H : F_ints a b = some r) : Calls Try.prog 22 [Value.slice aa a.length ac, Value.slice ba b.length bc].toArray w (PostV (Value.bool r) w) := by
  unfold F_ints at H
  refine Calls.enter Try.func22 rfl rfl rfl ?_
  refine C.conseq (A' := St w no [] [rowO aa 1 enI a, rowO ba 1 enI b]) (fun _ e => by subst e; exact St.init _ _ (okCons ao (okCons bo okNil))) ?_
  refine C.seq ?_
  refine C.reg ?_
  refine J.q rfl rfl rfl rfl (Q.assign .c) ?_  -- 0:0 law.go:28
  refine J.end_ ?_
  refine C.keep (.cons 1 rfl (.cons 2 rfl .nil)) ?_
  refine C.seq ?_
  refine C.seq ?_
  refine C.reg ?_
  refine J.q rfl rfl rfl rfl (Q.move (.t 0 rfl)) ?_  -- 1:0 law.go:29
  refine J.q rfl rfl rfl rfl (Q.len Try.underlying33 (.t 0 rfl)) ?_  -- 1:1 law.go:29
  refine J.q rfl rfl rfl rfl (Q.move (.t 3 rfl)) ?_  -- 1:2 law.go:29
  refine J.q rfl rfl rfl rfl (Q.len Try.underlying33 (.t 0 rfl)) ?_  -- 1:3 law.go:29
  refine J.q rfl rfl rfl rfl (Q.neq (.t 2 rfl) (.t 0 rfl)) ?_  -- 1:4 law.go:29
  refine J.end_ ?_
  refine C.keep (.cons 0 rfl (.cons 5 rfl (.cons 6 rfl .nil))) ?_
  refine C.cond (.t 0 rfl) (fun c1 => ?_) (fun c1 => ?_)
  ·
    replace H := sel_t c1 H
    refine C.seq ?_
    refine C.reg ?_
    refine J.q rfl rfl rfl rfl (Q.assign .c) ?_  -- 2:0 law.go:30
    refine J.end_ ?_
    refine C.keep (.cons 0 rfl .nil) ?_
    refine C.ret ?_
    refine X.thenRet ?_
    obtain rfl := Option.some.inj H
    refine X.rets (vs := [Value.bool false]) rfl (.t 0 rfl .nil) (fun w' hA => ?_)
    exact PostV.of hA
  ·
    replace H := sel_f c1 H
    refine C.skip ?_
    refine X.go ?_
    refine C.keep (.cons 1 rfl (.cons 2 rfl .nil)) ?_
    refine C.seq ?_
    refine C.seq ?_
    refine C.reg ?_
    refine J.q rfl rfl rfl rfl (Q.assign .c) ?_  -- 3:0 law.go:32
    refine J.end_ ?_
    refine C.block ?_
    obtain ⟨t12, ht13, H⟩ := bd_some H
    refine C.it_1 (fun s r => Value.int .i64 s) (fun s r => St w no [] [rowO aa 1 enI a, rowO ba 1 enI b]) (0 : Int) () ht13 rfl (fun _ h => h) ?_
    rintro v11 ⟨⟩ o14 H16 ho15
    try dsimp only at H16 ⊢
    refine C.seq ?_
    refine C.seq ?_
    refine C.reg ?_
    refine J.q rfl rfl rfl rfl (Q.move (.t 0 rfl)) ?_  -- 4:0 law.go:32
    refine J.q rfl rfl rfl rfl (Q.move (.t 2 rfl)) ?_  -- 4:1 law.go:32
    refine J.q rfl rfl rfl rfl (Q.len Try.underlying33 (.t 0 rfl)) ?_  -- 4:2 law.go:32
    refine J.q rfl rfl rfl rfl (Q.lss (.t 2 rfl) (.t 0 rfl)) ?_  -- 4:3 law.go:32
    refine J.end_ ?_
    refine C.keep (.cons 0 rfl (.cons 4 rfl (.cons 5 rfl (.cons 6 rfl .nil)))) ?_
    refine C.cond (.t 0 rfl) (fun c17 => ?_) (fun c17 => ?_)
    ·
      replace H16 := sel_t c17 H16
      refine C.skip ?_
      refine X.go ?_
      refine C.keep (.cons 1 rfl (.cons 2 rfl (.cons 3 rfl .nil))) ?_
      refine C.seq ?_
      refine C.block ?_
      refine C.seq ?_
      obtain ⟨x18, hx19, hi20, H16⟩ := ix_some H16
      obtain ⟨x21, hx22, hi23, H16⟩ := ix_some H16
      refine C.drawS ?_
      refine JC.q 0 rfl rfl rfl rfl (Q.move (.t 1 rfl)) ?_  -- 6:0 law.go:33
      refine JC.q 1 rfl rfl rfl rfl (Q.move (.t 1 rfl)) ?_  -- 6:1 law.go:33
      refine JC.q 2 rfl rfl rfl rfl (Q.ixO 0 rfl Try.underlying33 Try.sizeOf3 (.t 1 rfl) (.t 0 rfl) rfl hi20) ?_  -- 6:2 law.go:33
      refine JC.q 3 rfl rfl rfl rfl (Q.load (.t 0 rfl) Try.isAgg3 (ldOa0 1 0 rfl hx19 (.cons .nil))) ?_  -- 6:3 law.go:33
      refine JC.q 4 rfl rfl rfl rfl (Q.move (.t 6 rfl)) ?_  -- 6:4 law.go:33
      refine JC.q 5 rfl rfl rfl rfl (Q.move (.t 5 rfl)) ?_  -- 6:5 law.go:33
      refine JC.q 6 rfl rfl rfl rfl (Q.ixO 1 rfl Try.underlying33 Try.sizeOf3 (.t 1 rfl) (.t 0 rfl) rfl hi23) ?_  -- 6:6 law.go:33
      refine JC.q 7 rfl rfl rfl rfl (Q.load (.t 0 rfl) Try.isAgg3 (ldOa0 1 1 rfl hx22 (.cons .nil))) ?_  -- 6:7 law.go:33
      refine JC.q 8 rfl rfl rfl rfl (Q.neq (.t 4 rfl) (.t 0 rfl)) ?_  -- 6:8 law.go:33
      refine JC.tail [0, 0, 3, 7, 0, 0, 48, 112, 255] 0 mixed (by kernel_rfl) (by kernel_rfl) (fun _ h => h) ?_
      refine JT.end_ ?_
      refine X.go ?_
      refine C.keep (.cons 0 rfl (.cons 9 rfl (.cons 10 rfl (.cons 11 rfl .nil)))) ?_
      refine C.cond (.t 0 rfl) (fun c24 => ?_) (fun c24 => ?_)
      ·
        replace H16 := sel_t c24 H16
        refine C.seq ?_
        refine C.reg ?_
        refine J.q rfl rfl rfl rfl (Q.assign .c) ?_  -- 7:0 law.go:34
        refine J.end_ ?_
        refine C.keep (.cons 0 rfl .nil) ?_
        refine C.ret ?_
        refine X.inRet ?_
        refine X.thenRet ?_
        refine X.thenRet ?_
        obtain rfl := Option.some.inj H16
        obtain rfl := ho15
        try dsimp only [thn] at H
        refine X.inRet ?_
        refine X.thenRet ?_
        obtain rfl := Option.some.inj H
        refine X.rets (vs := [Value.bool false]) rfl (.t 0 rfl .nil) (fun w' hA => ?_)
        exact PostV.of hA
      ·
        replace H16 := sel_f c24 H16
        refine C.skip ?_
        refine X.inNormal ?_
        refine X.go ?_
        refine C.keep (.cons 1 rfl (.cons 2 rfl (.cons 3 rfl .nil))) ?_
        obtain ⟨h26, H16⟩ := ck_some H16
        refine C.reg ?_
        refine J.q rfl rfl rfl rfl (Q.move (.t 0 rfl)) ?_  -- 5:0 law.go:32
        refine J.q rfl rfl rfl rfl (Q.add (.t 0 rfl) .c h26) ?_  -- 5:1 law.go:32
        refine J.keep (.cons 0 rfl (.cons 1 rfl (.cons 3 rfl (.cons 4 rfl .nil)))) ?_
        refine J.q rfl rfl rfl rfl (Q.assign (.t 0 rfl)) ?_  -- 5:2 law.go:32
        refine J.done ?_
        obtain rfl := Option.some.inj H16
        exact X.nxi (v11 + (1 : Int)) () ho15 (.cons 0 rfl (.cons 3 rfl (.cons 4 rfl .nil))) (fun _ h => h)
    ·
      replace H16 := sel_f c17 H16
      refine C.exit ?_
      refine X.thenExit ?_
      obtain rfl := Option.some.inj H16
      obtain rfl : (Sum.inl v11) = t12 := ho15
      try dsimp only [thn] at H
      refine X.thenExit ?_
      refine X.inHit ?_
      refine X.go ?_
      refine C.keep .nil ?_
      refine C.seq ?_
      refine C.reg ?_
      refine J.q rfl rfl rfl rfl (Q.assign .c) ?_  -- 8:0 law.go:37
      refine J.end_ ?_
      refine C.ret ?_
      obtain rfl := Option.some.inj H
      refine X.rets (vs := [Value.bool true]) rfl (.t 0 rfl .nil) (fun w' hA => ?_)
      exact PostV.of hA

noncomputable def F_longs (a : (List Int)) (b : (List Int)) : Option Bool := sel (decide ((a.length : Int) ≠ (b.length : Int))) (some (false)) (bd (iter (σ := Int) (τ := (Int ⊕ Bool)) (fun v11 => sel (decide (v11 < (a.length : Int))) (ix a v11 fun x18 => (ix b v11 fun x21 => (sel (decide (x18 ≠ x21)) (some (.inr (.inr (false)))) (ck (I64ok (v11 + (1 : Int))) (some (.inl (v11 + (1 : Int)))))))) (some (.inr (.inl v11)))) (0 : Int)) (fun t => thn t (fun v11 => some (true))))
theorem longs_calls (w : World) (aa : Option Addr) (ac : Nat) (a : (List Int)) (ba : Option Addr) (bc : Nat) (b : (List Int)) (ao : (rowO aa 1 enI a).ok w) (al : a.length ≤ ac) (bo : (rowO ba 1 enI b).ok w) (bl : b.length ≤ bc) {r : Bool} (H : F_longs a b = some r) : Calls Try.prog 15 [Value.slice aa a.length ac, Value.slice ba b.length bc].toArray w (PostV (Value.bool r) w) := by
  unfold F_longs at H
  refine Calls.enter Try.func15 rfl rfl rfl ?_
  refine C.conseq (A' := St w no [] [rowO aa 1 enI a, rowO ba 1 enI b]) (fun _ e => by subst e; exact St.init _ _ (okCons ao (okCons bo okNil))) ?_
  refine C.seq ?_
  refine C.reg ?_
  refine J.q rfl rfl rfl rfl (Q.assign .c) ?_  -- 0:0 law.go:41
  refine J.end_ ?_
  refine C.keep (.cons 1 rfl (.cons 2 rfl .nil)) ?_
  refine C.seq ?_
  refine C.seq ?_
  refine C.reg ?_
  refine J.q rfl rfl rfl rfl (Q.move (.t 0 rfl)) ?_  -- 1:0 law.go:42
  refine J.q rfl rfl rfl rfl (Q.len Try.underlying32 (.t 0 rfl)) ?_  -- 1:1 law.go:42
  refine J.q rfl rfl rfl rfl (Q.move (.t 3 rfl)) ?_  -- 1:2 law.go:42
  refine J.q rfl rfl rfl rfl (Q.len Try.underlying32 (.t 0 rfl)) ?_  -- 1:3 law.go:42
  refine J.q rfl rfl rfl rfl (Q.neq (.t 2 rfl) (.t 0 rfl)) ?_  -- 1:4 law.go:42
  refine J.end_ ?_
  refine C.keep (.cons 0 rfl (.cons 5 rfl (.cons 6 rfl .nil))) ?_
  refine C.cond (.t 0 rfl) (fun c1 => ?_) (fun c1 => ?_)
  ·
    replace H := sel_t c1 H
    refine C.seq ?_
    refine C.reg ?_
    refine J.q rfl rfl rfl rfl (Q.assign .c) ?_  -- 2:0 law.go:43
    refine J.end_ ?_
    refine C.keep (.cons 0 rfl .nil) ?_
    refine C.ret ?_
    refine X.thenRet ?_
    obtain rfl := Option.some.inj H
    refine X.rets (vs := [Value.bool false]) rfl (.t 0 rfl .nil) (fun w' hA => ?_)
    exact PostV.of hA
  ·
    replace H := sel_f c1 H
    refine C.skip ?_
    refine X.go ?_
    refine C.keep (.cons 1 rfl (.cons 2 rfl .nil)) ?_
    refine C.seq ?_
    refine C.seq ?_
    refine C.reg ?_
    refine J.q rfl rfl rfl rfl (Q.assign .c) ?_  -- 3:0 law.go:45
    refine J.end_ ?_
    refine C.block ?_
    obtain ⟨t12, ht13, H⟩ := bd_some H
    refine C.it_1 (fun s r => Value.int .i64 s) (fun s r => St w no [] [rowO aa 1 enI a, rowO ba 1 enI b]) (0 : Int) () ht13 rfl (fun _ h => h) ?_
    rintro v11 ⟨⟩ o14 H16 ho15
    try dsimp only at H16 ⊢
    refine C.seq ?_
    refine C.seq ?_
    refine C.reg ?_
    refine J.q rfl rfl rfl rfl (Q.move (.t 0 rfl)) ?_  -- 4:0 law.go:45
    refine J.q rfl rfl rfl rfl (Q.move (.t 2 rfl)) ?_  -- 4:1 law.go:45
    refine J.q rfl rfl rfl rfl (Q.len Try.underlying32 (.t 0 rfl)) ?_  -- 4:2 law.go:45
    refine J.q rfl rfl rfl rfl (Q.lss (.t 2 rfl) (.t 0 rfl)) ?_  -- 4:3 law.go:45
    refine J.end_ ?_
    refine C.keep (.cons 0 rfl (.cons 4 rfl (.cons 5 rfl (.cons 6 rfl .nil)))) ?_
    refine C.cond (.t 0 rfl) (fun c17 => ?_) (fun c17 => ?_)
    ·
      replace H16 := sel_t c17 H16
      refine C.skip ?_
      refine X.go ?_
      refine C.keep (.cons 1 rfl (.cons 2 rfl (.cons 3 rfl .nil))) ?_
      refine C.seq ?_
      refine C.block ?_
      refine C.seq ?_
      obtain ⟨x18, hx19, hi20, H16⟩ := ix_some H16
      obtain ⟨x21, hx22, hi23, H16⟩ := ix_some H16
      refine C.drawS ?_
      refine JC.q 0 rfl rfl rfl rfl (Q.move (.t 1 rfl)) ?_  -- 6:0 law.go:46
      refine JC.q 1 rfl rfl rfl rfl (Q.move (.t 1 rfl)) ?_  -- 6:1 law.go:46
      refine JC.q 2 rfl rfl rfl rfl (Q.ixO 0 rfl Try.underlying32 Try.sizeOf2 (.t 1 rfl) (.t 0 rfl) rfl hi20) ?_  -- 6:2 law.go:46
      refine JC.q 3 rfl rfl rfl rfl (Q.load (.t 0 rfl) Try.isAgg2 (ldOa0 1 0 rfl hx19 (.cons .nil))) ?_  -- 6:3 law.go:46
      refine JC.q 4 rfl rfl rfl rfl (Q.move (.t 6 rfl)) ?_  -- 6:4 law.go:46
      refine JC.q 5 rfl rfl rfl rfl (Q.move (.t 5 rfl)) ?_  -- 6:5 law.go:46
      refine JC.q 6 rfl rfl rfl rfl (Q.ixO 1 rfl Try.underlying32 Try.sizeOf2 (.t 1 rfl) (.t 0 rfl) rfl hi23) ?_  -- 6:6 law.go:46
      refine JC.q 7 rfl rfl rfl rfl (Q.load (.t 0 rfl) Try.isAgg2 (ldOa0 1 1 rfl hx22 (.cons .nil))) ?_  -- 6:7 law.go:46
      refine JC.q 8 rfl rfl rfl rfl (Q.neq (.t 4 rfl) (.t 0 rfl)) ?_  -- 6:8 law.go:46
      refine JC.tail [0, 0, 3, 7, 0, 0, 48, 112, 255] 0 mixed (by kernel_rfl) (by kernel_rfl) (fun _ h => h) ?_
      refine JT.end_ ?_
      refine X.go ?_
      refine C.keep (.cons 0 rfl (.cons 9 rfl (.cons 10 rfl (.cons 11 rfl .nil)))) ?_
      refine C.cond (.t 0 rfl) (fun c24 => ?_) (fun c24 => ?_)
      ·
        replace H16 := sel_t c24 H16
        refine C.seq ?_
        refine C.reg ?_
        refine J.q rfl rfl rfl rfl (Q.assign .c) ?_  -- 7:0 law.go:47
        refine J.end_ ?_
        refine C.keep (.cons 0 rfl .nil) ?_
        refine C.ret ?_
        refine X.inRet ?_
        refine X.thenRet ?_
        refine X.thenRet ?_
        obtain rfl := Option.some.inj H16
        obtain rfl := ho15
        try dsimp only [thn] at H
        refine X.inRet ?_
        refine X.thenRet ?_
        obtain rfl := Option.some.inj H
        refine X.rets (vs := [Value.bool false]) rfl (.t 0 rfl .nil) (fun w' hA => ?_)
        exact PostV.of hA
      ·
        replace H16 := sel_f c24 H16
        refine C.skip ?_
        refine X.inNormal ?_
        refine X.go ?_
        refine C.keep (.cons 1 rfl (.cons 2 rfl (.cons 3 rfl .nil))) ?_
        obtain ⟨h26, H16⟩ := ck_some H16
        refine C.reg ?_
        refine J.q rfl rfl rfl rfl (Q.move (.t 0 rfl)) ?_  -- 5:0 law.go:45
        refine J.q rfl rfl rfl rfl (Q.add (.t 0 rfl) .c h26) ?_  -- 5:1 law.go:45
        refine J.keep (.cons 0 rfl (.cons 1 rfl (.cons 3 rfl (.cons 4 rfl .nil)))) ?_
        refine J.q rfl rfl rfl rfl (Q.assign (.t 0 rfl)) ?_  -- 5:2 law.go:45
        refine J.done ?_
        obtain rfl := Option.some.inj H16
        exact X.nxi (v11 + (1 : Int)) () ho15 (.cons 0 rfl (.cons 3 rfl (.cons 4 rfl .nil))) (fun _ h => h)
    ·
      replace H16 := sel_f c17 H16
      refine C.exit ?_
      refine X.thenExit ?_
      obtain rfl := Option.some.inj H16
      obtain rfl : (Sum.inl v11) = t12 := ho15
      try dsimp only [thn] at H
      refine X.thenExit ?_
      refine X.inHit ?_
      refine X.go ?_
      refine C.keep .nil ?_
      refine C.seq ?_
      refine C.reg ?_
      refine J.q rfl rfl rfl rfl (Q.assign .c) ?_  -- 8:0 law.go:50
      refine J.end_ ?_
      refine C.ret ?_
      obtain rfl := Option.some.inj H
      refine X.rets (vs := [Value.bool true]) rfl (.t 0 rfl .nil) (fun w' hA => ?_)
      exact PostV.of hA

noncomputable def F_long (c : Cable) : Option Bool := some ((((decide ((20 : Int) < (c.nodes.length : Int))) && (decide ((c.nodes.length : Int) ≤ (60 : Int)))) || (decide ((70 : Int) < (c.nodes.length : Int)))))
theorem long_calls (w : World) (ca : Option Addr) (cc : Nat) (c : Cable) (co : (rowO ca 8 Nd.enc c.nodes).ok w) (cl : c.nodes.length ≤ cc) {r : Bool} (H : F_long c = some r) : Calls Try.prog 11 [Value.agg (Cable.cells c ca cc).toArray].toArray w (PostV (Value.bool r) w) := by
  unfold F_long at H
  refine Calls.enter Try.func11 rfl rfl rfl ?_
  refine C.conseq (A' := St w no [] [rowO ca 8 Nd.enc c.nodes]) (fun _ e => by subst e; exact St.init _ _ (okCons co okNil)) ?_
  refine C.seq ?_
  refine C.reg ?_
  refine J.box rfl rfl rfl rfl (vs := (Cable.cells c ca cc)) (.t 0 rfl) rfl ?_; intro b1 _  -- 0:0 law.go:80
  refine J.q rfl rfl rfl rfl (Q.assign .c) ?_  -- 0:1 law.go:80
  refine J.end_ ?_
  refine C.keep (.cons 1 rfl .nil) ?_
  refine C.seq ?_
  refine C.reg ?_
  refine J.q rfl rfl rfl rfl (Q.fa0 2 Try.underlying26 rfl Try.sizeOf24 rfl rfl (.t 0 rfl)) ?_  -- 1:0 law.go:81
  refine J.q rfl rfl rfl rfl (Q.load (.t 0 rfl) Try.isAgg24 (ldT 1 0 rfl (.skip (.skip (.cons .nil))))) ?_  -- 1:1 law.go:81
  refine J.q rfl rfl rfl rfl (Q.len Try.underlying24 (.t 0 rfl)) ?_  -- 1:2 law.go:81
  refine J.q rfl rfl rfl rfl (Q.gtr (.t 0 rfl) .c) ?_  -- 1:3 law.go:81
  refine J.q rfl rfl rfl rfl (Q.move (.t 0 rfl)) ?_  -- 1:4 law.go:81
  refine J.gQ (Gd.one rfl rfl rfl (.t 0 rfl)) rfl rfl rfl (.p 5 rfl .nil) (fun hg => (Q.fa0 2 Try.underlying26 rfl Try.sizeOf24 rfl rfl (.t 0 rfl))) ?_  -- 1:5 law.go:81
  refine J.gQ (Gd.one rfl rfl rfl (.t 1 rfl)) rfl rfl rfl (.g 0 rfl .nil) (fun hg => (Q.load (.t 0 rfl) Try.isAgg24 (ldT 1 0 rfl (.skip (.skip (.cons .nil)))))) ?_  -- 1:6 law.go:81
  refine J.gQ (Gd.one rfl rfl rfl (.t 2 rfl)) rfl rfl rfl (.g 0 rfl .nil) (fun hg => (Q.len Try.underlying24 (.t 0 rfl))) ?_  -- 1:7 law.go:81
  refine J.gQ (Gd.one rfl rfl rfl (.t 3 rfl)) rfl rfl rfl (.g 0 rfl .nil) (fun hg => (Q.leq (.t 0 rfl) .c)) ?_  -- 1:8 law.go:81
  refine J.q rfl rfl rfl rfl (Q.and_ (.t 4 rfl) (.t 0 rfl)) ?_  -- 1:9 law.go:81
  refine J.q rfl rfl rfl rfl (Q.move (.t 0 rfl)) ?_  -- 1:10 law.go:81
  refine J.gQ (Gd.one rfl rfl rfl (.t 0 rfl)) rfl rfl rfl (.p 11 rfl .nil) (fun hg => (Q.fa0 2 Try.underlying26 rfl Try.sizeOf24 rfl rfl (.t 0 rfl))) ?_  -- 1:11 law.go:81
  refine J.gQ (Gd.one rfl rfl rfl (.t 1 rfl)) rfl rfl rfl (.g 0 rfl .nil) (fun hg => (Q.load (.t 0 rfl) Try.isAgg24 (ldT 1 0 rfl (.skip (.skip (.cons .nil)))))) ?_  -- 1:12 law.go:81
  refine J.gQ (Gd.one rfl rfl rfl (.t 2 rfl)) rfl rfl rfl (.g 0 rfl .nil) (fun hg => (Q.len Try.underlying24 (.t 0 rfl))) ?_  -- 1:13 law.go:81
  refine J.gQ (Gd.one rfl rfl rfl (.t 3 rfl)) rfl rfl rfl (.g 0 rfl .nil) (fun hg => (Q.gtr (.t 0 rfl) .c)) ?_  -- 1:14 law.go:81
  refine J.q rfl rfl rfl rfl (Q.or_ (.t 4 rfl) (.t 0 rfl)) ?_  -- 1:15 law.go:81
  refine J.q rfl rfl rfl rfl (Q.assign (.t 0 rfl)) ?_  -- 1:16 law.go:81
  refine J.end_ ?_
  refine C.keep (.cons 0 rfl .nil) ?_
  refine C.ret ?_
  obtain rfl := Option.some.inj H
  refine X.rets (vs := [Value.bool (((decide ((20 : Int) < (c.nodes.length : Int))) && (decide ((c.nodes.length : Int) ≤ (60 : Int)))) || (decide ((70 : Int) < (c.nodes.length : Int))))]) rfl (.t 0 rfl .nil) (fun w' hA => ?_)
  exact PostV.of hA

noncomputable def F_valid (c : Cable) : Option Bool := bd (F_long (c)) fun r2 => (bdg ((!r2) == true) (F_rCheck (c)) fun r4 => (some (((!r2) && (decide (r4 = (0 : Int)))))))
theorem valid_calls (w : World) (ca : Option Addr) (cc : Nat) (c : Cable) (co : (rowO ca 8 Nd.enc c.nodes).ok w) (cl : c.nodes.length ≤ cc) {r : Bool} (H : F_valid c = some r) : Calls Try.prog 6 [Value.agg (Cable.cells c ca cc).toArray].toArray w (PostV (Value.bool r) w) := by
  unfold F_valid at H
  refine Calls.enter Try.func6 rfl rfl rfl ?_
  refine C.conseq (A' := St w no [] [rowO ca 8 Nd.enc c.nodes]) (fun _ e => by subst e; exact St.init _ _ (okCons co okNil)) ?_
  refine C.seq ?_
  refine C.reg ?_
  refine J.box rfl rfl rfl rfl (vs := (Cable.cells c ca cc)) (.t 0 rfl) rfl ?_; intro b1 _  -- 0:0 outright.go:11
  refine J.q rfl rfl rfl rfl (Q.assign .c) ?_  -- 0:1 outright.go:11
  refine J.end_ ?_
  refine C.keep (.cons 1 rfl .nil) ?_
  refine C.seq ?_
  obtain ⟨r2, hr3, H⟩ := bd_some H
  obtain ⟨r4, hr5, H⟩ := bdg_some H
  refine C.reg ?_
  refine J.q rfl rfl rfl rfl (Q.loadsV (.t 0 rfl) ⟨Try.isAgg26, Try.sizeOf26⟩ (ldT 3 0 rfl (.cons (.cons (.cons .nil)))) rfl) ?_  -- 1:0 outright.go:11
  refine J.callV rfl rfl rfl rfl (run_static Try.call11 .f (.cons (.t 0 rfl) .nil) rfl) (fun w hA => long_calls w ca cc (c) (hA.okO 0 rfl) cl hr3) ?_  -- 1:1 outright.go:11
  refine J.q rfl rfl rfl rfl (Q.not_ (.t 0 rfl)) ?_  -- 1:2 outright.go:11
  refine J.q rfl rfl rfl rfl (Q.move (.t 0 rfl)) ?_  -- 1:3 outright.go:11
  refine J.gQ (Gd.one rfl rfl rfl (.t 0 rfl)) rfl rfl rfl (.p 4 rfl .nil) (fun hg => (Q.loadsV (.t 0 rfl) ⟨Try.isAgg26, Try.sizeOf26⟩ (ldT 3 0 rfl (.cons (.cons (.cons .nil)))) rfl)) ?_  -- 1:4 outright.go:11
  refine J.gCall (Gd.one rfl rfl rfl (.t 1 rfl)) rfl rfl rfl (.g 0 rfl .nil) (run_static Try.call18 .f (.cons (.t 0 rfl) .nil) rfl) (fun hg w hA => rCheck_calls w ca cc (c) (hA.okO 0 rfl) cl (hr5 hg)) ?_  -- 1:5 outright.go:11
  refine J.gQ (Gd.one rfl rfl rfl (.t 2 rfl)) rfl rfl rfl (.g 0 rfl .nil) (fun hg => (Q.eql (.t 0 rfl) .c)) ?_  -- 1:6 outright.go:11
  refine J.q rfl rfl rfl rfl (Q.and_ (.t 3 rfl) (.t 0 rfl)) ?_  -- 1:7 outright.go:11
  refine J.q rfl rfl rfl rfl (Q.assign (.t 0 rfl)) ?_  -- 1:8 outright.go:11
  refine J.end_ ?_
  refine C.keep (.cons 0 rfl .nil) ?_
  refine C.ret ?_
  obtain rfl := Option.some.inj H
  refine X.rets (vs := [Value.bool ((!r2) && (decide (r4 = (0 : Int))))]) rfl (.t 0 rfl .nil) (fun w' hA => ?_)
  exact PostV.of hA

noncomputable def F_granting (c : Cable) (q : (List Int)) (k : (List Int)) : Option ((List Int) × (List Int)) := bd (iter (σ := (Int × (List Int) × (List Int))) (τ := (Int × (List Int) × (List Int))) (fun (v40, v41, v44) => sel (decide (v40 < (c.nodes.length : Int))) (bd (sel (decide (v40 < (q.length : Int))) (ix q v40 fun x62 => (ck (IntKind.wrap .i64 x62 = x62) (some x62))) (some (0 : Int))) (fun v58 => bd (sel (decide (v40 < (k.length : Int))) (ix k v40 fun x77 => (ck (IntKind.wrap .i64 x77 = x77) (ck (0 ≤ x77 ∧ 1 ≤ (8 : Int)) (some (x77 % (8 : Int)))))) (some (0 : Int))) (fun v73 => ck ((v44 ++ [v58]).length ≤ 68719476736) (ck ((v41 ++ [v73]).length ≤ 68719476736) (ck (I64ok (v40 + (1 : Int))) (some (.inl ((v40 + (1 : Int)), (v41 ++ [v73]), (v44 ++ [v58]))))))))) (some (.inr (v40, v41, v44)))) ((0 : Int), ([] : (List Int)), ([] : (List Int)))) (fun (v40, v41, v44) => some ((v44), (v41)))
theorem granting_calls (w : World) (ca : Option Addr) (cc : Nat) (c : Cable) (qa : Option Addr) (qc : Nat) (q : (List Int)) (ka : Option Addr) (kc : Nat) (k : (List Int)) (co : (rowO ca 8 Nd.enc c.nodes).ok w) (cl : c.nodes.length ≤ cc) (qo : (rowO qa 1 (enK .u16) q).ok w) (ql : q.length ≤ qc) (ko : (rowO ka 1 (enK .u8) k).ok w) (kl : k.length ≤ kc) {r : ((List Int) × (List Int))} (H : F_granting c q k = some r) : Calls Try.prog 8 [Value.agg (Cable.cells c ca cc).toArray, Value.slice qa q.length qc, Value.slice ka k.length kc].toArray w (PostN (fun _ : ((Option Addr × Nat) × (Option Addr × Nat)) => True) (fun x => Value.tuple [Value.slice x.1.1 r.1.length x.1.2, Value.slice x.2.1 r.2.length x.2.2].toArray) (fun x => sep (rowG 2 1 x.1.1 r.1.length x.1.2 (r.1.flatMap enI)) (rowG 3 1 x.2.1 r.2.length x.2.2 (r.2.flatMap enI))) w) := by
  unfold F_granting at H
  refine Calls.enter Try.func8 rfl rfl rfl ?_
  refine C.conseq (A' := St w no [] [rowO ca 8 Nd.enc c.nodes, rowO qa 1 (enK .u16) q, rowO ka 1 (enK .u8) k]) (fun _ e => by subst e; exact St.init _ _ (okCons co (okCons qo (okCons ko okNil)))) ?_
  refine C.seq ?_
  refine C.reg ?_
  refine J.box rfl rfl rfl rfl (vs := (Cable.cells c ca cc)) (.t 0 rfl) rfl ?_; intro b1 _  -- 0:0 outright.go:137
  refine J.q rfl rfl rfl rfl (Q.assign .c) ?_  -- 0:1 outright.go:137
  refine J.q rfl rfl rfl rfl (Q.assign .c) ?_  -- 0:2 outright.go:137
  refine J.end_ ?_
  refine C.keep (.cons 2 rfl (.cons 4 rfl (.cons 5 rfl .nil))) ?_
  refine C.seq ?_
  refine C.reg ?_
  refine J.q rfl rfl rfl rfl (Q.assign .c) ?_  -- 1:0 outright.go:138
  refine J.end_ ?_
  refine C.seq ?_
  refine C.reg ?_
  refine J.q rfl rfl rfl rfl (Q.assign .c) ?_  -- 2:0 outright.go:139
  refine J.end_ ?_
  refine C.seq ?_
  refine C.seq ?_
  refine C.reg ?_
  refine J.q rfl rfl rfl rfl (Q.assign .c) ?_  -- 3:0 outright.go:140
  refine J.end_ ?_
  refine C.block ?_
  refine C.conseq (A' := St w no [rowG 3 1 none ([] : (List Int)).length 0 (([] : (List Int)).flatMap enI), bx b1 26 (Cable.cells c ca cc)] [rowO ca 8 Nd.enc c.nodes, rowO qa 1 (enK .u16) q, rowO ka 1 (enK .u8) k]) (fun _ h => St.newG (e := 3) (sz := 1) h) ?_
  refine C.keep (L' := [(10, _), (9, Value.slice none ([] : (List Int)).length 0), (8, _), (3, _), (1, _), (2, _)]) (.cons 0 rfl (.cons 1 rfl (.cons 2 rfl (.cons 3 rfl (.cons 4 rfl (.cons 5 rfl .nil)))))) ?_
  refine C.conseq (A' := St w no [rowG 2 1 none ([] : (List Int)).length 0 (([] : (List Int)).flatMap enI), rowG 3 1 none ([] : (List Int)).length 0 (([] : (List Int)).flatMap enI), bx b1 26 (Cable.cells c ca cc)] [rowO ca 8 Nd.enc c.nodes, rowO qa 1 (enK .u16) q, rowO ka 1 (enK .u8) k]) (fun _ h => St.newG (e := 2) (sz := 1) h) ?_
  refine C.keep (L' := [(10, _), (9, _), (8, Value.slice none ([] : (List Int)).length 0), (3, _), (1, _), (2, _)]) (.cons 0 rfl (.cons 1 rfl (.cons 2 rfl (.cons 3 rfl (.cons 4 rfl (.cons 5 rfl .nil)))))) ?_
  obtain ⟨t47, ht48, H⟩ := bd_some H
  refine C.it_3 (fun s r => Value.int .i64 s.1) (fun s r => Value.slice r.1.1 s.2.1.length r.1.2) (fun s r => Value.slice r.2.1 s.2.2.length r.2.2) (fun s r => St w no [rowG 2 1 r.2.1 s.2.2.length r.2.2 (s.2.2.flatMap enI), rowG 3 1 r.1.1 s.2.1.length r.1.2 (s.2.1.flatMap enI), bx b1 26 (Cable.cells c ca cc)] [rowO ca 8 Nd.enc c.nodes, rowO qa 1 (enK .u16) q, rowO ka 1 (enK .u8) k]) ((0 : Int), ([] : (List Int)), ([] : (List Int))) ((none, 0), (none, 0)) ht48 rfl rfl rfl (fun _ h => h) ?_
  rintro ⟨v40, v41, v44⟩ ⟨⟨a42, c43⟩, ⟨a45, c46⟩⟩ o49 H51 ho50
  try dsimp only at H51 ⊢
  refine C.seq ?_
  refine C.seq ?_
  refine C.reg ?_
  refine J.q rfl rfl rfl rfl (Q.move (.t 0 rfl)) ?_  -- 4:0 outright.go:140
  refine J.q rfl rfl rfl rfl (Q.fa0 2 Try.underlying26 rfl Try.sizeOf24 rfl rfl (.t 4 rfl)) ?_  -- 4:1 outright.go:140
  refine J.q rfl rfl rfl rfl (Q.load (.t 0 rfl) Try.isAgg24 (ldT 1 2 rfl (.skip (.skip (.cons .nil))))) ?_  -- 4:2 outright.go:140
  refine J.q rfl rfl rfl rfl (Q.len Try.underlying24 (.t 0 rfl)) ?_  -- 4:3 outright.go:140
  refine J.q rfl rfl rfl rfl (Q.lss (.t 3 rfl) (.t 0 rfl)) ?_  -- 4:4 outright.go:140
  refine J.end_ ?_
  refine C.keep (.cons 0 rfl (.cons 5 rfl (.cons 6 rfl (.cons 7 rfl (.cons 8 rfl (.cons 9 rfl (.cons 10 rfl .nil))))))) ?_
  refine C.cond (.t 0 rfl) (fun c52 => ?_) (fun c52 => ?_)
  ·
    replace H51 := sel_t c52 H51
    refine C.skip ?_
    refine X.go ?_
    refine C.keep (.cons 1 rfl (.cons 2 rfl (.cons 3 rfl (.cons 4 rfl (.cons 5 rfl (.cons 6 rfl .nil)))))) ?_
    refine C.seq ?_
    refine C.block ?_
    refine C.seq ?_
    refine C.reg ?_
    refine J.q rfl rfl rfl rfl (Q.assign .c) ?_  -- 6:0 outright.go:141
    refine J.q rfl rfl rfl rfl (Q.assign .c) ?_  -- 6:1 outright.go:141
    refine J.end_ ?_
    refine C.seq ?_
    refine C.seq ?_
    refine C.reg ?_
    refine J.q rfl rfl rfl rfl (Q.move (.t 2 rfl)) ?_  -- 7:0 outright.go:142
    refine J.q rfl rfl rfl rfl (Q.move (.t 7 rfl)) ?_  -- 7:1 outright.go:142
    refine J.q rfl rfl rfl rfl (Q.len Try.underlying27 (.t 0 rfl)) ?_  -- 7:2 outright.go:142
    refine J.q rfl rfl rfl rfl (Q.lss (.t 2 rfl) (.t 0 rfl)) ?_  -- 7:3 outright.go:142
    refine J.end_ ?_
    refine C.keep (.cons 0 rfl (.cons 4 rfl (.cons 5 rfl (.cons 6 rfl (.cons 7 rfl (.cons 8 rfl (.cons 9 rfl (.cons 10 rfl (.cons 11 rfl .nil))))))))) ?_
    obtain ⟨t59, ht60, H51⟩ := bd_some H51
    refine C.cutq_1 (d1 := 11) (fun g => Value.int .i64 g.1.1) (G := { g : Int × Unit // t59 = g.1 }) (.cons 1 rfl (.cons 3 rfl (.cons 4 rfl (.cons 5 rfl (.cons 6 rfl (.cons 7 rfl (.cons 8 rfl .nil))))))) (fun g => St w no [rowG 2 1 a45 v44.length c46 (v44.flatMap enI), rowG 3 1 a42 v41.length c43 (v41.flatMap enI), bx b1 26 (Cable.cells c ca cc)] [rowO ca 8 Nd.enc c.nodes, rowO qa 1 (enK .u16) q, rowO ka 1 (enK .u8) k]) ?_ ?_
    ·
      refine C.cond (.t 0 rfl) (fun c61 => ?_) (fun c61 => ?_)
      ·
        replace ht60 := sel_t c61 ht60
        obtain ⟨x62, hx63, hi64, ht60⟩ := ix_some ht60
        obtain ⟨h65, ht60⟩ := ck_some ht60
        refine C.reg ?_
        refine J.q rfl rfl rfl rfl (Q.move (.t 7 rfl)) ?_  -- 8:0 outright.go:143
        refine J.q rfl rfl rfl rfl (Q.move (.t 4 rfl)) ?_  -- 8:1 outright.go:143
        refine J.q rfl rfl rfl rfl (Q.ixO 1 rfl Try.underlying27 Try.sizeOf29 (.t 1 rfl) (.t 0 rfl) rfl hi64) ?_  -- 8:2 outright.go:143
        refine J.q rfl rfl rfl rfl (Q.load (.t 0 rfl) Try.isAgg29 (ldOa0 1 1 rfl hx63 (.cons .nil))) ?_  -- 8:3 outright.go:143
        refine J.q rfl rfl rfl rfl (Q.conv Try.underlying29 Try.underlying2 (.t 0 rfl) h65) ?_  -- 8:4 outright.go:143
        refine J.keep (.cons 0 rfl (.cons 1 rfl (.cons 2 rfl (.cons 3 rfl (.cons 4 rfl (.cons 5 rfl (.cons 6 rfl (.cons 8 rfl (.cons 9 rfl (.cons 10 rfl (.cons 11 rfl (.cons 12 rfl (.cons 13 rfl .nil))))))))))))) ?_
        refine J.q rfl rfl rfl rfl (Q.assign (.t 0 rfl)) ?_  -- 8:5 outright.go:143
        refine J.done ?_
        obtain rfl := Option.some.inj ht60
        exact X.meet ⟨(x62, ()), rfl⟩ (.cons 0 rfl (.cons 7 rfl (.cons 8 rfl (.cons 9 rfl (.cons 10 rfl (.cons 11 rfl (.cons 12 rfl (.cons 13 rfl .nil)))))))) (fun _ h => h)
      ·
        replace ht60 := sel_f c61 ht60
        refine C.skip ?_
        obtain rfl := Option.some.inj ht60
        exact X.meet ⟨((0 : Int), ()), rfl⟩ (.cons 2 rfl (.cons 1 rfl (.cons 3 rfl (.cons 4 rfl (.cons 5 rfl (.cons 6 rfl (.cons 7 rfl (.cons 8 rfl .nil)))))))) (fun _ h => h)
    ·
      rintro ⟨⟨v58, ⟨⟩⟩, e66⟩
      dsimp only at e66 ⊢
      have e66' := e66.symm
      subst e66'
      try dsimp only at H51
      refine C.seq ?_
      refine C.seq ?_
      refine C.reg ?_
      refine J.q rfl rfl rfl rfl (Q.move (.t 2 rfl)) ?_  -- 9:0 outright.go:145
      refine J.q rfl rfl rfl rfl (Q.move (.t 8 rfl)) ?_  -- 9:1 outright.go:145
      refine J.q rfl rfl rfl rfl (Q.len Try.underlying28 (.t 0 rfl)) ?_  -- 9:2 outright.go:145
      refine J.q rfl rfl rfl rfl (Q.lss (.t 2 rfl) (.t 0 rfl)) ?_  -- 9:3 outright.go:145
      refine J.end_ ?_
      refine C.keep (.cons 0 rfl (.cons 4 rfl (.cons 5 rfl (.cons 6 rfl (.cons 7 rfl (.cons 8 rfl (.cons 9 rfl (.cons 10 rfl (.cons 11 rfl .nil))))))))) ?_
      obtain ⟨t74, ht75, H51⟩ := bd_some H51
      refine C.cutq_1 (d1 := 12) (fun g => Value.int .i64 g.1.1) (G := { g : Int × Unit // t74 = g.1 }) (.cons 1 rfl (.cons 3 rfl (.cons 4 rfl (.cons 5 rfl (.cons 6 rfl (.cons 7 rfl (.cons 8 rfl .nil))))))) (fun g => St w no [rowG 2 1 a45 v44.length c46 (v44.flatMap enI), rowG 3 1 a42 v41.length c43 (v41.flatMap enI), bx b1 26 (Cable.cells c ca cc)] [rowO ca 8 Nd.enc c.nodes, rowO qa 1 (enK .u16) q, rowO ka 1 (enK .u8) k]) ?_ ?_
      ·
        refine C.cond (.t 0 rfl) (fun c76 => ?_) (fun c76 => ?_)
        ·
          replace ht75 := sel_t c76 ht75
          obtain ⟨x77, hx78, hi79, ht75⟩ := ix_some ht75
          obtain ⟨h80, ht75⟩ := ck_some ht75
          obtain ⟨h81, ht75⟩ := ck_some ht75
          refine C.reg ?_
          refine J.q rfl rfl rfl rfl (Q.move (.t 8 rfl)) ?_  -- 10:0 outright.go:146
          refine J.q rfl rfl rfl rfl (Q.move (.t 4 rfl)) ?_  -- 10:1 outright.go:146
          refine J.q rfl rfl rfl rfl (Q.ixO 2 rfl Try.underlying28 Try.sizeOf5 (.t 1 rfl) (.t 0 rfl) rfl hi79) ?_  -- 10:2 outright.go:146
          refine J.q rfl rfl rfl rfl (Q.load (.t 0 rfl) Try.isAgg5 (ldOa0 1 2 rfl hx78 (.cons .nil))) ?_  -- 10:3 outright.go:146
          refine J.q rfl rfl rfl rfl (Q.conv Try.underlying5 Try.underlying3 (.t 0 rfl) h80) ?_  -- 10:4 outright.go:146
          refine J.q rfl rfl rfl rfl (Q.remE (.t 0 rfl) .c h81) ?_  -- 10:5 outright.go:146
          refine J.keep (.cons 0 rfl (.cons 1 rfl (.cons 2 rfl (.cons 3 rfl (.cons 4 rfl (.cons 5 rfl (.cons 6 rfl (.cons 7 rfl (.cons 9 rfl (.cons 10 rfl (.cons 11 rfl (.cons 12 rfl (.cons 13 rfl (.cons 14 rfl .nil)))))))))))))) ?_
          refine J.q rfl rfl rfl rfl (Q.assign (.t 0 rfl)) ?_  -- 10:6 outright.go:146
          refine J.done ?_
          obtain rfl := Option.some.inj ht75
          exact X.meet ⟨((x77 % (8 : Int)), ()), rfl⟩ (.cons 0 rfl (.cons 8 rfl (.cons 9 rfl (.cons 10 rfl (.cons 11 rfl (.cons 12 rfl (.cons 13 rfl (.cons 14 rfl .nil)))))))) (fun _ h => h)
        ·
          replace ht75 := sel_f c76 ht75
          refine C.skip ?_
          obtain rfl := Option.some.inj ht75
          exact X.meet ⟨((0 : Int), ()), rfl⟩ (.cons 2 rfl (.cons 1 rfl (.cons 3 rfl (.cons 4 rfl (.cons 5 rfl (.cons 6 rfl (.cons 7 rfl (.cons 8 rfl .nil)))))))) (fun _ h => h)
      ·
        rintro ⟨⟨v73, ⟨⟩⟩, e82⟩
        dsimp only at e82 ⊢
        have e82' := e82.symm
        subst e82'
        try dsimp only at H51
        refine C.seq ?_
        obtain ⟨h84, H51⟩ := ck_some H51
        refine C.reg ?_
        refine J.q rfl rfl rfl rfl (Q.move (.t 4 rfl)) ?_  -- 11:0 outright.go:148
        refine J.q rfl rfl rfl rfl (Q.move (.t 2 rfl)) ?_  -- 11:1 outright.go:148
        refine J.litG (enc := enI) (us := [v58]) rfl rfl rfl rfl rfl rfl Try.underlying32 inf2 rfl (by decide) (fun _ => rfl) (.cons (.t 0 rfl) .nil) rfl rfl rfl rfl ?_; intro b83  -- 11:2 outright.go:148
        refine J.app (enc := enI) (xs := v44) (ys := [v58]) (Mn := fun a85 c86 => [rowG 2 1 (some (⟨b83, 0, none⟩ : Addr)) [v58].length [v58].length ([v58].flatMap enI), rowG 2 1 a85 (v44 ++ [v58]).length c86 ((v44 ++ [v58]).flatMap enI), rowG 3 1 a42 v41.length c43 (v41.flatMap enI), bx b1 26 (Cable.cells c ca cc)]) rfl rfl rfl rfl Try.underlying32 inf2 rfl (by decide) (fun _ => rfl) (fun _ => (Ones.all (.cons rfl .nil))) (by decide) (.t 2 rfl) (.t 0 rfl) (fun w hA => (hA.okG 0 rfl (by decide) (fun _ => rfl))) rfl rfl h84 (fun _ _ => (.there .here)) ?_; intro a85 c86  -- 11:3 outright.go:148
        refine J.keep (.cons 0 rfl (.cons 1 rfl (.cons 2 rfl (.cons 3 rfl (.cons 4 rfl (.cons 5 rfl (.cons 6 rfl (.cons 7 rfl (.cons 9 rfl (.cons 10 rfl (.cons 11 rfl .nil))))))))))) ?_
        refine J.q rfl rfl rfl rfl (Q.assign (.t 0 rfl)) ?_  -- 11:4 outright.go:148
        refine J.end_ ?_
        refine C.keep (.cons 0 rfl (.cons 5 rfl (.cons 7 rfl (.cons 8 rfl (.cons 9 rfl (.cons 10 rfl (.cons 11 rfl .nil))))))) ?_
        obtain ⟨h88, H51⟩ := ck_some H51
        refine C.reg ?_
        refine J.q rfl rfl rfl rfl (Q.move (.t 3 rfl)) ?_  -- 12:0 outright.go:149
        refine J.q rfl rfl rfl rfl (Q.move (.t 2 rfl)) ?_  -- 12:1 outright.go:149
        refine J.litG (enc := enI) (us := [v73]) rfl rfl rfl rfl rfl rfl Try.underlying33 inf3 rfl (by decide) (fun _ => rfl) (.cons (.t 0 rfl) .nil) rfl rfl rfl rfl ?_; intro b87  -- 12:2 outright.go:149
        refine J.app (enc := enI) (xs := v41) (ys := [v73]) (Mn := fun a89 c90 => [rowG 3 1 (some (⟨b87, 0, none⟩ : Addr)) [v73].length [v73].length ([v73].flatMap enI), rowG 2 1 (some (⟨b83, 0, none⟩ : Addr)) [v58].length [v58].length ([v58].flatMap enI), rowG 2 1 a85 (v44 ++ [v58]).length c86 ((v44 ++ [v58]).flatMap enI), rowG 3 1 a89 (v41 ++ [v73]).length c90 ((v41 ++ [v73]).flatMap enI), bx b1 26 (Cable.cells c ca cc)]) rfl rfl rfl rfl Try.underlying33 inf3 rfl (by decide) (fun _ => rfl) (fun _ => (Ones.all (.cons rfl .nil))) (by decide) (.t 2 rfl) (.t 0 rfl) (fun w hA => (hA.okG 0 rfl (by decide) (fun _ => rfl))) rfl rfl h88 (fun _ _ => (.there (.there (.there .here)))) ?_; intro a89 c90  -- 12:3 outright.go:149
        refine J.keep (.cons 0 rfl (.cons 1 rfl (.cons 2 rfl (.cons 3 rfl (.cons 4 rfl (.cons 5 rfl (.cons 6 rfl (.cons 8 rfl (.cons 9 rfl (.cons 10 rfl .nil)))))))))) ?_
        refine J.q rfl rfl rfl rfl (Q.assign (.t 0 rfl)) ?_  -- 12:4 outright.go:149
        refine J.done ?_
        refine X.inNormal ?_
        refine X.go ?_
        refine C.keep (.cons 0 rfl (.cons 5 rfl (.cons 7 rfl (.cons 8 rfl (.cons 9 rfl (.cons 10 rfl .nil)))))) ?_
        obtain ⟨h91, H51⟩ := ck_some H51
        refine C.reg ?_
        refine J.q rfl rfl rfl rfl (Q.move (.t 2 rfl)) ?_  -- 5:0 outright.go:140
        refine J.q rfl rfl rfl rfl (Q.add (.t 0 rfl) .c h91) ?_  -- 5:1 outright.go:140
        refine J.keep (.cons 0 rfl (.cons 1 rfl (.cons 2 rfl (.cons 3 rfl (.cons 5 rfl (.cons 6 rfl (.cons 7 rfl .nil))))))) ?_
        refine J.q rfl rfl rfl rfl (Q.assign (.t 0 rfl)) ?_  -- 5:2 outright.go:140
        refine J.done ?_
        obtain rfl := Option.some.inj H51
        exact X.nxi ((v40 + (1 : Int)), (v41 ++ [v73]), (v44 ++ [v58])) ((a89, c90), (a85, c86)) ho50 (.cons 0 rfl (.cons 3 rfl (.cons 4 rfl (.cons 5 rfl (.cons 6 rfl (.cons 7 rfl .nil)))))) (fun _ h => h.to (.cons (.there (.there .here)) (.cons (.there (.there .here)) (.cons (.there (.there .here)) .drop))))
  ·
    replace H51 := sel_f c52 H51
    refine C.exit ?_
    refine X.thenExit ?_
    obtain rfl := Option.some.inj H51
    obtain rfl : (v40, v41, v44) = t47 := ho50
    try dsimp only at H
    refine X.thenExit ?_
    refine X.inHit ?_
    refine X.go ?_
    refine C.keep (.cons 2 rfl (.cons 3 rfl .nil)) ?_
    refine C.seq ?_
    refine C.reg ?_
    refine J.q rfl rfl rfl rfl (Q.move (.t 1 rfl)) ?_  -- 13:0 outright.go:151
    refine J.q rfl rfl rfl rfl (Q.move (.t 1 rfl)) ?_  -- 13:1 outright.go:151
    refine J.q rfl rfl rfl rfl (Q.assign (.t 1 rfl)) ?_  -- 13:2 outright.go:151
    refine J.q rfl rfl rfl rfl (Q.assign (.t 1 rfl)) ?_  -- 13:3 outright.go:151
    refine J.end_ ?_
    refine C.keep (.cons 0 rfl (.cons 1 rfl .nil)) ?_
    refine C.ret ?_
    obtain rfl := Option.some.inj H
    refine X.rets (vs := [Value.slice a45 v44.length c46, Value.slice a42 v41.length c43]) rfl (.t 1 rfl (.t 0 rfl .nil)) (fun w' hA => ?_)
    exact PostN.of ((a45, c46), (a42, c43)) trivial (St.join (hA.to (.cons .here (.cons .here .drop))))

noncomputable def F_Example  : Option Cable := some ((⟨(⟨(10000 : Int), (10000 : Int)⟩ : Span), [(⟨(-1 : Int), (⟨(0 : Int), (0 : Int)⟩ : Span), (1000 : Int), (⟨(0 : Int), (0 : Int)⟩ : Span), (0 : Int), (-1 : Int)⟩ : Nd), (⟨(0 : Int), (⟨(100 : Int), (200 : Int)⟩ : Span), (500 : Int), (⟨(100 : Int), (100 : Int)⟩ : Span), (9000 : Int), (30 : Int)⟩ : Nd), (⟨(1 : Int), (⟨(1000 : Int), (1000 : Int)⟩ : Span), (300 : Int), (⟨(200 : Int), (300 : Int)⟩ : Span), (9700 : Int), (10 : Int)⟩ : Nd), (⟨(1 : Int), (⟨(500 : Int), (500 : Int)⟩ : Span), (300 : Int), (⟨(0 : Int), (50 : Int)⟩ : Span), (9900 : Int), (-1 : Int)⟩ : Nd)]⟩ : Cable))
theorem Example_calls (w : World)   {r : Cable} (H : F_Example  = some r) : Calls Try.prog 20 [].toArray w (PostN (fun _ : (Option Addr × Nat) => True) (fun x => Value.agg (Cable.cells r x.1 x.2).toArray) (fun x => (rowG 40 8 x.1 r.nodes.length x.2 (r.nodes.flatMap Nd.enc))) w) := by
  unfold F_Example at H
  refine Calls.enter Try.func20 rfl rfl rfl ?_
  refine C.conseq (A' := St w no [] []) (fun _ e => by subst e; exact St.init _ _ okNil) ?_
  refine C.seq ?_
  refine C.reg ?_
  refine J.alloc rfl rfl rfl rfl (vs := (Cable.cells (⟨(⟨(0 : Int), (0 : Int)⟩ : Span), ([] : (List Nd))⟩ : Cable) none 0)) Try.zeroValue26 rfl ?_; intro b1 _  -- 0:0 law.go:11
  refine J.end_ ?_
  refine C.seq ?_
  refine C.reg ?_
  refine J.q rfl rfl rfl rfl (Q.buildB stb23 (ps := [(0, _), (1, _)]) (.cons .c (.cons .c .nil)) rfl (.cons rfl rfl rfl (.cons .nil) (.cons rfl rfl rfl (.skip (.cons .nil)) .nil))) ?_  -- 1:0 law.go:12
  refine J.q rfl rfl rfl rfl (Q.buildB stb40 (ps := [(0, _), (2, _), (5, _)]) (.cons .c (.cons .c (.cons .c .nil))) rfl (.cons rfl rfl rfl (.cons .nil) (.cons rfl rfl rfl (.skip (.skip (.skip (.cons .nil)))) (.cons rfl rfl rfl (.skip (.skip (.skip (.skip (.skip (.skip (.skip (.cons .nil)))))))) .nil)))) ?_  -- 1:1 law.go:12
  refine J.q rfl rfl rfl rfl (Q.buildB stb23 (ps := [(0, _), (1, _)]) (.cons .c (.cons .c .nil)) rfl (.cons rfl rfl rfl (.cons .nil) (.cons rfl rfl rfl (.skip (.cons .nil)) .nil))) ?_  -- 1:2 law.go:12
  refine J.q rfl rfl rfl rfl (Q.buildB stb23 (ps := [(0, _), (1, _)]) (.cons .c (.cons .c .nil)) rfl (.cons rfl rfl rfl (.cons .nil) (.cons rfl rfl rfl (.skip (.cons .nil)) .nil))) ?_  -- 1:3 law.go:12
  refine J.q rfl rfl rfl rfl (Q.buildB stb40 (ps := [(1, _), (2, _), (3, _), (4, _), (5, _)]) (.cons (.t 1 rfl) (.cons .c (.cons (.t 0 rfl) (.cons .c (.cons .c .nil))))) rfl (.cons rfl rfl rfl (.skip (.cons (.cons .nil))) (.cons rfl rfl rfl (.skip (.skip (.skip (.cons .nil)))) (.cons rfl rfl rfl (.skip (.skip (.skip (.skip (.cons (.cons .nil)))))) (.cons rfl rfl rfl (.skip (.skip (.skip (.skip (.skip (.skip (.cons .nil))))))) (.cons rfl rfl rfl (.skip (.skip (.skip (.skip (.skip (.skip (.skip (.cons .nil)))))))) .nil)))))) ?_  -- 1:4 law.go:12
  refine J.q rfl rfl rfl rfl (Q.buildB stb23 (ps := [(0, _), (1, _)]) (.cons .c (.cons .c .nil)) rfl (.cons rfl rfl rfl (.cons .nil) (.cons rfl rfl rfl (.skip (.cons .nil)) .nil))) ?_  -- 1:5 law.go:12
  refine J.q rfl rfl rfl rfl (Q.buildB stb23 (ps := [(0, _), (1, _)]) (.cons .c (.cons .c .nil)) rfl (.cons rfl rfl rfl (.cons .nil) (.cons rfl rfl rfl (.skip (.cons .nil)) .nil))) ?_  -- 1:6 law.go:12
  refine J.q rfl rfl rfl rfl (Q.buildB stb40 (ps := [(0, _), (1, _), (2, _), (3, _), (4, _), (5, _)]) (.cons .c (.cons (.t 1 rfl) (.cons .c (.cons (.t 0 rfl) (.cons .c (.cons .c .nil)))))) rfl (.cons rfl rfl rfl (.cons .nil) (.cons rfl rfl rfl (.skip (.cons (.cons .nil))) (.cons rfl rfl rfl (.skip (.skip (.skip (.cons .nil)))) (.cons rfl rfl rfl (.skip (.skip (.skip (.skip (.cons (.cons .nil)))))) (.cons rfl rfl rfl (.skip (.skip (.skip (.skip (.skip (.skip (.cons .nil))))))) (.cons rfl rfl rfl (.skip (.skip (.skip (.skip (.skip (.skip (.skip (.cons .nil)))))))) .nil))))))) ?_  -- 1:7 law.go:12
  refine J.q rfl rfl rfl rfl (Q.buildB stb23 (ps := [(0, _), (1, _)]) (.cons .c (.cons .c .nil)) rfl (.cons rfl rfl rfl (.cons .nil) (.cons rfl rfl rfl (.skip (.cons .nil)) .nil))) ?_  -- 1:8 law.go:12
  refine J.q rfl rfl rfl rfl (Q.buildB stb23 (ps := [(0, _), (1, _)]) (.cons .c (.cons .c .nil)) rfl (.cons rfl rfl rfl (.cons .nil) (.cons rfl rfl rfl (.skip (.cons .nil)) .nil))) ?_  -- 1:9 law.go:12
  refine J.q rfl rfl rfl rfl (Q.buildB stb40 (ps := [(0, _), (1, _), (2, _), (3, _), (4, _), (5, _)]) (.cons .c (.cons (.t 1 rfl) (.cons .c (.cons (.t 0 rfl) (.cons .c (.cons .c .nil)))))) rfl (.cons rfl rfl rfl (.cons .nil) (.cons rfl rfl rfl (.skip (.cons (.cons .nil))) (.cons rfl rfl rfl (.skip (.skip (.skip (.cons .nil)))) (.cons rfl rfl rfl (.skip (.skip (.skip (.skip (.cons (.cons .nil)))))) (.cons rfl rfl rfl (.skip (.skip (.skip (.skip (.skip (.skip (.cons .nil))))))) (.cons rfl rfl rfl (.skip (.skip (.skip (.skip (.skip (.skip (.skip (.cons .nil)))))))) .nil))))))) ?_  -- 1:10 law.go:12
  refine J.litG (enc := Nd.enc) (us := [(⟨(-1 : Int), (⟨(0 : Int), (0 : Int)⟩ : Span), (1000 : Int), (⟨(0 : Int), (0 : Int)⟩ : Span), (0 : Int), (-1 : Int)⟩ : Nd), (⟨(0 : Int), (⟨(100 : Int), (200 : Int)⟩ : Span), (500 : Int), (⟨(100 : Int), (100 : Int)⟩ : Span), (9000 : Int), (30 : Int)⟩ : Nd), (⟨(1 : Int), (⟨(1000 : Int), (1000 : Int)⟩ : Span), (300 : Int), (⟨(200 : Int), (300 : Int)⟩ : Span), (9700 : Int), (10 : Int)⟩ : Nd), (⟨(1 : Int), (⟨(500 : Int), (500 : Int)⟩ : Span), (300 : Int), (⟨(0 : Int), (50 : Int)⟩ : Span), (9900 : Int), (-1 : Int)⟩ : Nd)]) rfl rfl rfl rfl rfl rfl Try.underlying24 inf40 rfl (by decide) (fun _ => rfl) (.cons (.t 9 rfl) (.cons (.t 6 rfl) (.cons (.t 3 rfl) (.cons (.t 0 rfl) .nil)))) rfl rfl rfl rfl ?_; intro b2  -- 1:11 law.go:12
  refine J.q rfl rfl rfl rfl (Q.buildB stb26 (ps := [(0, _), (1, _)]) (.cons (.t 11 rfl) (.cons (.t 0 rfl) .nil)) rfl (.cons rfl rfl rfl (.cons (.cons .nil)) (.cons rfl rfl rfl (.skip (.skip (.cons .nil))) .nil))) ?_  -- 1:12 law.go:12
  refine J.s rfl rfl rfl (S.storeP (vs := (Cable.cells (⟨(⟨(10000 : Int), (10000 : Int)⟩ : Span), [(⟨(-1 : Int), (⟨(0 : Int), (0 : Int)⟩ : Span), (1000 : Int), (⟨(0 : Int), (0 : Int)⟩ : Span), (0 : Int), (-1 : Int)⟩ : Nd), (⟨(0 : Int), (⟨(100 : Int), (200 : Int)⟩ : Span), (500 : Int), (⟨(100 : Int), (100 : Int)⟩ : Span), (9000 : Int), (30 : Int)⟩ : Nd), (⟨(1 : Int), (⟨(1000 : Int), (1000 : Int)⟩ : Span), (300 : Int), (⟨(200 : Int), (300 : Int)⟩ : Span), (9700 : Int), (10 : Int)⟩ : Nd), (⟨(1 : Int), (⟨(500 : Int), (500 : Int)⟩ : Span), (300 : Int), (⟨(0 : Int), (50 : Int)⟩ : Span), (9900 : Int), (-1 : Int)⟩ : Nd)]⟩ : Cable) (some (⟨b2, 0, none⟩ : Addr)) [(⟨(-1 : Int), (⟨(0 : Int), (0 : Int)⟩ : Span), (1000 : Int), (⟨(0 : Int), (0 : Int)⟩ : Span), (0 : Int), (-1 : Int)⟩ : Nd), (⟨(0 : Int), (⟨(100 : Int), (200 : Int)⟩ : Span), (500 : Int), (⟨(100 : Int), (100 : Int)⟩ : Span), (9000 : Int), (30 : Int)⟩ : Nd), (⟨(1 : Int), (⟨(1000 : Int), (1000 : Int)⟩ : Span), (300 : Int), (⟨(200 : Int), (300 : Int)⟩ : Span), (9700 : Int), (10 : Int)⟩ : Nd), (⟨(1 : Int), (⟨(500 : Int), (500 : Int)⟩ : Span), (300 : Int), (⟨(0 : Int), (50 : Int)⟩ : Span), (9900 : Int), (-1 : Int)⟩ : Nd)].length)) (l' := (Cable.cells (⟨(⟨(10000 : Int), (10000 : Int)⟩ : Span), [(⟨(-1 : Int), (⟨(0 : Int), (0 : Int)⟩ : Span), (1000 : Int), (⟨(0 : Int), (0 : Int)⟩ : Span), (0 : Int), (-1 : Int)⟩ : Nd), (⟨(0 : Int), (⟨(100 : Int), (200 : Int)⟩ : Span), (500 : Int), (⟨(100 : Int), (100 : Int)⟩ : Span), (9000 : Int), (30 : Int)⟩ : Nd), (⟨(1 : Int), (⟨(1000 : Int), (1000 : Int)⟩ : Span), (300 : Int), (⟨(200 : Int), (300 : Int)⟩ : Span), (9700 : Int), (10 : Int)⟩ : Nd), (⟨(1 : Int), (⟨(500 : Int), (500 : Int)⟩ : Span), (300 : Int), (⟨(0 : Int), (50 : Int)⟩ : Span), (9900 : Int), (-1 : Int)⟩ : Nd)]⟩ : Cable) (some (⟨b2, 0, none⟩ : Addr)) [(⟨(-1 : Int), (⟨(0 : Int), (0 : Int)⟩ : Span), (1000 : Int), (⟨(0 : Int), (0 : Int)⟩ : Span), (0 : Int), (-1 : Int)⟩ : Nd), (⟨(0 : Int), (⟨(100 : Int), (200 : Int)⟩ : Span), (500 : Int), (⟨(100 : Int), (100 : Int)⟩ : Span), (9000 : Int), (30 : Int)⟩ : Nd), (⟨(1 : Int), (⟨(1000 : Int), (1000 : Int)⟩ : Span), (300 : Int), (⟨(200 : Int), (300 : Int)⟩ : Span), (9700 : Int), (10 : Int)⟩ : Nd), (⟨(1 : Int), (⟨(500 : Int), (500 : Int)⟩ : Span), (300 : Int), (⟨(0 : Int), (50 : Int)⟩ : Span), (9900 : Int), (-1 : Int)⟩ : Nd)].length)) (.t 13 rfl) (.t 0 rfl) Try.sizeOf26 rfl rfl (Ones.all (.cons rfl (.cons rfl (.cons rfl .nil)))) (.there .here) (.cons (.cons (.cons .nil)))) ?_  -- 1:13 law.go:12
  refine J.end_ ?_
  refine C.keep (.cons 13 rfl .nil) ?_
  refine C.ret ?_
  obtain rfl := Option.some.inj H
  refine X.rets (vs := [Value.agg (Cable.cells (⟨(⟨(10000 : Int), (10000 : Int)⟩ : Span), [(⟨(-1 : Int), (⟨(0 : Int), (0 : Int)⟩ : Span), (1000 : Int), (⟨(0 : Int), (0 : Int)⟩ : Span), (0 : Int), (-1 : Int)⟩ : Nd), (⟨(0 : Int), (⟨(100 : Int), (200 : Int)⟩ : Span), (500 : Int), (⟨(100 : Int), (100 : Int)⟩ : Span), (9000 : Int), (30 : Int)⟩ : Nd), (⟨(1 : Int), (⟨(1000 : Int), (1000 : Int)⟩ : Span), (300 : Int), (⟨(200 : Int), (300 : Int)⟩ : Span), (9700 : Int), (10 : Int)⟩ : Nd), (⟨(1 : Int), (⟨(500 : Int), (500 : Int)⟩ : Span), (300 : Int), (⟨(0 : Int), (50 : Int)⟩ : Span), (9900 : Int), (-1 : Int)⟩ : Nd)]⟩ : Cable) (some (⟨b2, 0, none⟩ : Addr)) [(⟨(-1 : Int), (⟨(0 : Int), (0 : Int)⟩ : Span), (1000 : Int), (⟨(0 : Int), (0 : Int)⟩ : Span), (0 : Int), (-1 : Int)⟩ : Nd), (⟨(0 : Int), (⟨(100 : Int), (200 : Int)⟩ : Span), (500 : Int), (⟨(100 : Int), (100 : Int)⟩ : Span), (9000 : Int), (30 : Int)⟩ : Nd), (⟨(1 : Int), (⟨(1000 : Int), (1000 : Int)⟩ : Span), (300 : Int), (⟨(200 : Int), (300 : Int)⟩ : Span), (9700 : Int), (10 : Int)⟩ : Nd), (⟨(1 : Int), (⟨(500 : Int), (500 : Int)⟩ : Span), (300 : Int), (⟨(0 : Int), (50 : Int)⟩ : Span), (9900 : Int), (-1 : Int)⟩ : Nd)].length).toArray]) rfl (.c 0 rfl ⟨Try.isAgg26, Try.sizeOf26⟩ rfl (ldT 3 1 rfl (.cons (.cons (.cons .nil)))) .nil) (fun w' hA => ?_)
  exact PostN.of ((some (⟨b2, 0, none⟩ : Addr)), [(⟨(-1 : Int), (⟨(0 : Int), (0 : Int)⟩ : Span), (1000 : Int), (⟨(0 : Int), (0 : Int)⟩ : Span), (0 : Int), (-1 : Int)⟩ : Nd), (⟨(0 : Int), (⟨(100 : Int), (200 : Int)⟩ : Span), (500 : Int), (⟨(100 : Int), (100 : Int)⟩ : Span), (9000 : Int), (30 : Int)⟩ : Nd), (⟨(1 : Int), (⟨(1000 : Int), (1000 : Int)⟩ : Span), (300 : Int), (⟨(200 : Int), (300 : Int)⟩ : Span), (9700 : Int), (10 : Int)⟩ : Nd), (⟨(1 : Int), (⟨(500 : Int), (500 : Int)⟩ : Span), (300 : Int), (⟨(0 : Int), (50 : Int)⟩ : Span), (9900 : Int), (-1 : Int)⟩ : Nd)].length) trivial (hA.to (.cons .here .drop))

end Go.Proofs
