/- cable: the laws, by print -/
import Derived.Test.YtafghgomhjeabaaC7
import Derived.Test.YtafghgomhjeabaaProg
set_option linter.unusedVariables false
set_option linter.unusedSimpArgs false
namespace Go.Proofs
open Go Go.J Go.RowKit Go.Cab
set_option maxRecDepth 4096
set_option linter.unusedSimpArgs false
set_option linter.unusedVariables false
noncomputable def F_fine  : Option Bool := bd (F_Example ) fun r1 => (bd (F_Voltages (r1)) fun r5 => (bd (F_Example ) fun r9 => (bd (F_Lost (r9) ([(2 : Int), (3 : Int)]) ([])) fun r14 => (ck (I64ok (r5.2 + r14.2)) (ixg (((decide ((r5.2 + r14.2) = (0 : Int))) && (decide ((r5.1.length : Int) = (4 : Int)))) == true) r5.1 (2 : Int) fun x19 => (bdg ((((decide ((r5.2 + r14.2) = (0 : Int))) && (decide ((r5.1.length : Int) = (4 : Int)))) && (Span.eqb x19 (⟨(9610 : Int), (9770 : Int)⟩ : Span))) == true) (F_ints (r14.1) ([(1 : Int), (2 : Int), (3 : Int)])) fun r23 => (some (((((decide ((r5.2 + r14.2) = (0 : Int))) && (decide ((r5.1.length : Int) = (4 : Int)))) && (Span.eqb x19 (⟨(9610 : Int), (9770 : Int)⟩ : Span))) && r23)))))))))
theorem fine_calls (w : World)   {r : Bool} (H : F_fine  = some r) : Calls Try.prog 7 [].toArray w (PostV (Value.bool r) w) := by
  unfold F_fine at H
  refine Calls.enter Try.func7 rfl rfl rfl ?_
  refine C.conseq (A' := St w no [] []) (fun _ e => by subst e; exact St.init _ _ okNil) ?_
  refine C.seq ?_
  refine C.reg ?_
  refine J.q rfl rfl rfl rfl (Q.assign .c) ?_  -- 0:0 law.go:21
  refine J.end_ ?_
  refine C.keep .nil ?_
  refine C.seq ?_
  obtain ⟨r1, hr2, H⟩ := bd_some H
  obtain ⟨r5, hr6, H⟩ := bd_some H
  refine C.reg ?_
  refine J.callN rfl rfl rfl rfl (run_static Try.call20 .f .nil rfl) (fun w hA => Example_calls w   hr2) ?_  -- 1:0 law.go:22
  rintro ⟨a3, c4⟩ _
  refine J.callN rfl rfl rfl rfl (run_static Try.call19 .f (.cons (.t 0 rfl) .nil) rfl) (fun w hA => Voltages_calls w a3 c4 (r1) (hA.okG 0 rfl (by decide) (fun _ => rfl)) (hA.leG 0 rfl) hr6) ?_  -- 1:1 law.go:22
  rintro ⟨a7, c8⟩ _
  refine J.q rfl rfl rfl rfl (Q.move (.t 0 rfl)) ?_  -- 1:2 law.go:22
  refine J.q rfl rfl rfl rfl (Q.extract (.t 0 rfl) rfl) ?_  -- 1:3 law.go:22
  refine J.q rfl rfl rfl rfl (Q.extract (.t 1 rfl) rfl) ?_  -- 1:4 law.go:22
  refine J.q rfl rfl rfl rfl (Q.assign (.t 1 rfl)) ?_  -- 1:5 law.go:22
  refine J.q rfl rfl rfl rfl (Q.assign (.t 1 rfl)) ?_  -- 1:6 law.go:22
  refine J.end_ ?_
  refine C.keep (.cons 0 rfl (.cons 1 rfl .nil)) ?_
  refine C.seq ?_
  obtain ⟨r9, hr10, H⟩ := bd_some H
  obtain ⟨r14, hr15, H⟩ := bd_some H
  refine C.reg ?_
  refine J.callN rfl rfl rfl rfl (run_static Try.call20 .f .nil rfl) (fun w hA => Example_calls w   hr10) ?_  -- 2:0 law.go:23
  rintro ⟨a11, c12⟩ _
  refine J.litG (enc := enI) (us := [(2 : Int), (3 : Int)]) rfl rfl rfl rfl rfl rfl Try.underlying33 inf3 rfl (by decide) (fun _ => rfl) (.cons .c (.cons .c .nil)) rfl rfl rfl rfl ?_; intro b13  -- 2:1 law.go:23
  refine J.callN rfl rfl rfl rfl (run_static Try.call21 .f (.cons (.t 1 rfl) (.cons (.t 0 rfl) (.cons .c .nil))) rfl) (fun w hA => Lost_calls w a11 c12 (r9) (some (⟨b13, 0, none⟩ : Addr)) [(2 : Int), (3 : Int)].length ([(2 : Int), (3 : Int)]) none 0 ([]) (hA.okG 1 rfl (by decide) (fun _ => rfl)) (hA.leG 1 rfl) (hA.okG 0 rfl (by decide) (fun _ => rfl)) (hA.leG 0 rfl) rowO.nil (Nat.zero_le _) hr15) ?_  -- 2:2 law.go:23
  rintro ⟨a16, c17⟩ _
  refine J.q rfl rfl rfl rfl (Q.move (.t 0 rfl)) ?_  -- 2:3 law.go:23
  refine J.q rfl rfl rfl rfl (Q.extract (.t 0 rfl) rfl) ?_  -- 2:4 law.go:23
  refine J.q rfl rfl rfl rfl (Q.extract (.t 1 rfl) rfl) ?_  -- 2:5 law.go:23
  refine J.q rfl rfl rfl rfl (Q.assign (.t 1 rfl)) ?_  -- 2:6 law.go:23
  refine J.q rfl rfl rfl rfl (Q.assign (.t 1 rfl)) ?_  -- 2:7 law.go:23
  refine J.end_ ?_
  refine C.keep (.cons 0 rfl (.cons 1 rfl (.cons 8 rfl (.cons 9 rfl .nil)))) ?_
  refine C.seq ?_
  obtain ⟨h18, H⟩ := ck_some H
  obtain ⟨x19, hx20, hi21, H⟩ := ixg_some H
  obtain ⟨r23, hr24, H⟩ := bdg_some H
  refine C.reg ?_
  refine J.q rfl rfl rfl rfl (Q.move (.t 2 rfl)) ?_  -- 3:0 law.go:24
  refine J.q rfl rfl rfl rfl (Q.move (.t 1 rfl)) ?_  -- 3:1 law.go:24
  refine J.q rfl rfl rfl rfl (Q.add (.t 1 rfl) (.t 0 rfl) h18) ?_  -- 3:2 law.go:24
  refine J.q rfl rfl rfl rfl (Q.eql (.t 0 rfl) .c) ?_  -- 3:3 law.go:24
  refine J.q rfl rfl rfl rfl (Q.move (.t 0 rfl)) ?_  -- 3:4 law.go:24
  refine J.gQ (Gd.one rfl rfl rfl (.t 0 rfl)) rfl rfl rfl (.p 8 rfl .nil) (fun hg => (Q.move (.t 0 rfl))) ?_  -- 3:5 law.go:24
  refine J.gQ (Gd.one rfl rfl rfl (.t 1 rfl)) rfl rfl rfl (.g 0 rfl .nil) (fun hg => (Q.len Try.underlying51 (.t 0 rfl))) ?_  -- 3:6 law.go:24
  refine J.gQ (Gd.one rfl rfl rfl (.t 2 rfl)) rfl rfl rfl (.g 0 rfl .nil) (fun hg => (Q.eql (.t 0 rfl) .c)) ?_  -- 3:7 law.go:24
  refine J.q rfl rfl rfl rfl (Q.and_ (.t 3 rfl) (.t 0 rfl)) ?_  -- 3:8 law.go:24
  refine J.q rfl rfl rfl rfl (Q.move (.t 0 rfl)) ?_  -- 3:9 law.go:24
  refine J.gQ (Gd.one rfl rfl rfl (.t 0 rfl)) rfl rfl rfl (.p 13 rfl .nil) (fun hg => (Q.move (.t 0 rfl))) ?_  -- 3:10 law.go:24
  refine J.gQ (Gd.one rfl rfl rfl (.t 1 rfl)) rfl rfl rfl (.g 0 rfl .nil) (fun hg => (Q.ixG 3 rfl Try.underlying51 Try.sizeOf23 (.t 0 rfl) .c (hi21 hg))) ?_  -- 3:11 law.go:24
  refine J.gQ (Gd.one rfl rfl rfl (.t 2 rfl)) rfl rfl rfl (.g 0 rfl .nil) (fun hg => (Q.loadsV (.t 0 rfl) ⟨Try.isAgg23, Try.sizeOf23⟩ (ldGa0 (sz := 2) (enc := Span.enc) 2 3 rfl (by decide) (fun _ => rfl) (hx20 hg) (.cons (.cons .nil))) rfl)) ?_  -- 3:12 law.go:24
  refine J.gQ (Gd.one rfl rfl rfl (.t 3 rfl)) rfl rfl rfl .nil (fun hg => (Q.buildB stb23 (ps := [(0, _), (1, _)]) (.cons .c (.cons .c .nil)) rfl (.cons rfl rfl rfl (.cons .nil) (.cons rfl rfl rfl (.skip (.cons .nil)) .nil)))) ?_  -- 3:13 law.go:24
  refine J.gQ (Gd.one rfl rfl rfl (.t 4 rfl)) rfl rfl rfl (.g 1 rfl (.g 0 rfl .nil)) (fun hg => (Q.eqS (n := 2) (.t 0 rfl) (.t 1 rfl) guard23 (by decide) (eqv23' (x19) ((⟨(9610 : Int), (9770 : Int)⟩ : Span))))) ?_  -- 3:14 law.go:24
  refine J.q rfl rfl rfl rfl (Q.and_ (.t 5 rfl) (.t 0 rfl)) ?_  -- 3:15 law.go:24
  refine J.q rfl rfl rfl rfl (Q.move (.t 0 rfl)) ?_  -- 3:16 law.go:24
  refine J.split 0 rfl (fun hb25 => ?_) (fun hb25 => ?_)
  ·
    have hg : ((((decide ((r5.2 + r14.2) = (0 : Int))) && (decide ((r5.1.length : Int) = (4 : Int)))) && (Span.eqb x19 (⟨(9610 : Int), (9770 : Int)⟩ : Span))) == true) = true := by rw [hb25]; rfl
    refine J.gT (Gd.one rfl rfl rfl (.t 0 rfl)) hg ?_
    refine J.q rfl rfl rfl rfl (Q.move (.t 18 rfl)) ?_  -- 3:17 law.go:24
    have hg : ((((decide ((r5.2 + r14.2) = (0 : Int))) && (decide ((r5.1.length : Int) = (4 : Int)))) && (Span.eqb x19 (⟨(9610 : Int), (9770 : Int)⟩ : Span))) == true) = true := by rw [hb25]; rfl
    refine J.gT (Gd.one rfl rfl rfl (.t 1 rfl)) hg ?_
    refine J.litG (enc := enI) (us := [(1 : Int), (2 : Int), (3 : Int)]) rfl rfl rfl rfl rfl rfl Try.underlying33 inf3 rfl (by decide) (fun _ => rfl) (.cons .c (.cons .c (.cons .c .nil))) rfl rfl rfl rfl ?_; intro b22  -- 3:18 law.go:24
    have hg : ((((decide ((r5.2 + r14.2) = (0 : Int))) && (decide ((r5.1.length : Int) = (4 : Int)))) && (Span.eqb x19 (⟨(9610 : Int), (9770 : Int)⟩ : Span))) == true) = true := by rw [hb25]; rfl
    refine J.gT (Gd.one rfl rfl rfl (.t 2 rfl)) hg ?_
    refine J.callV rfl rfl rfl rfl (run_static Try.call22 .f (.cons (.t 1 rfl) (.cons (.t 0 rfl) .nil)) rfl) (fun w hA => ints_calls w a16 c17 (r14.1) (some (⟨b22, 0, none⟩ : Addr)) [(1 : Int), (2 : Int), (3 : Int)].length ([(1 : Int), (2 : Int), (3 : Int)]) (hA.okG 1 rfl (by decide) (fun _ => rfl)) (hA.leG 1 rfl) (hA.okG 0 rfl (by decide) (fun _ => rfl)) (hA.leG 0 rfl) (hr24 hg)) ?_  -- 3:19 law.go:24
    refine J.q rfl rfl rfl rfl (Q.pickTb (.t 3 rfl) hb25 (.t 0 rfl)) ?_
    refine J.keep (.cons 0 rfl .nil) ?_
    refine J.keep (L' := [(36, Value.bool ((((decide ((r5.2 + r14.2) = (0 : Int))) && (decide ((r5.1.length : Int) = (4 : Int)))) && (Span.eqb x19 (⟨(9610 : Int), (9770 : Int)⟩ : Span))) && r23))]) (.cons 0 (and_t hb25) .nil) ?_
    refine J.q rfl rfl rfl rfl (Q.assign (.t 0 rfl)) ?_  -- 3:21 law.go:24
    refine J.end_ ?_
    refine C.keep (.cons 0 rfl .nil) ?_
    refine C.ret ?_
    obtain rfl := Option.some.inj H
    refine X.rets (vs := [Value.bool ((((decide ((r5.2 + r14.2) = (0 : Int))) && (decide ((r5.1.length : Int) = (4 : Int)))) && (Span.eqb x19 (⟨(9610 : Int), (9770 : Int)⟩ : Span))) && r23)]) rfl (.t 0 rfl .nil) (fun w' hA => ?_)
    exact PostV.of hA
  ·
    refine J.gF (Gd.one rfl rfl rfl (.t 0 rfl)) (by rw [hb25]; rfl) rfl rfl ?_
    refine J.gF (Gd.one rfl rfl rfl (.t 0 rfl)) (by rw [hb25]; rfl) rfl rfl ?_
    refine J.gF (Gd.one rfl rfl rfl (.t 0 rfl)) (by rw [hb25]; rfl) rfl rfl ?_
    refine J.q rfl rfl rfl rfl (Q.pickFb (.t 0 rfl) hb25 .c) ?_
    refine J.keep (.cons 0 rfl .nil) ?_
    refine J.keep (L' := [(36, Value.bool ((((decide ((r5.2 + r14.2) = (0 : Int))) && (decide ((r5.1.length : Int) = (4 : Int)))) && (Span.eqb x19 (⟨(9610 : Int), (9770 : Int)⟩ : Span))) && r23))]) (.cons 0 (and_f hb25) .nil) ?_
    refine J.q rfl rfl rfl rfl (Q.assign (.t 0 rfl)) ?_  -- 3:21 law.go:24
    refine J.end_ ?_
    refine C.keep (.cons 0 rfl .nil) ?_
    refine C.ret ?_
    obtain rfl := Option.some.inj H
    refine X.rets (vs := [Value.bool ((((decide ((r5.2 + r14.2) = (0 : Int))) && (decide ((r5.1.length : Int) = (4 : Int)))) && (Span.eqb x19 (⟨(9610 : Int), (9770 : Int)⟩ : Span))) && r23)]) rfl (.t 0 rfl .nil) (fun w' hA => ?_)
    exact PostV.of hA

noncomputable def F_CableShares (c : Cable) (q : (List Int)) (ranks : (List Int)) (g : (List Int)) : Option Bool := bd (F_long (c)) fun r2 => (sel (((r2 || (decide ((100 : Int) < (q.length : Int)))) || (decide ((100 : Int) < (ranks.length : Int)))) || (decide ((100 : Int) < (g.length : Int)))) (bd (F_fine ) fun r5 => (some (r5))) (bd (F_Share (c) (q) (ranks)) fun r7 => (bd (F_rShare (c) (q) (ranks)) fun r11 => (bd (F_CheckShare (c) (g)) fun r15 => (bd (F_rCheckShare (c) (g)) fun r17 => (bd (F_longs (r7.1) (r11.1)) fun r19 => (bdg ((((r19 && (decide (r7.2 = r11.2))) && (decide (r15.1 = r17.1))) && (decide (r15.2 = r17.2))) == true) (F_fine ) fun r21 => (some (((((r19 && (decide (r7.2 = r11.2))) && (decide (r15.1 = r17.1))) && (decide (r15.2 = r17.2))) && r21))))))))))
theorem CableShares_calls (w : World) (ca : Option Addr) (cc : Nat) (c : Cable) (qa : Option Addr) (qc : Nat) (q : (List Int)) (ranksa : Option Addr) (ranksc : Nat) (ranks : (List Int)) (ga : Option Addr) (gc : Nat) (g : (List Int)) (co : (rowO ca 8 Nd.enc c.nodes).ok w) (cl : c.nodes.length ≤ cc) (qo : (rowO qa 1 enI q).ok w) (ql : q.length ≤ qc) (rankso : (rowO ranksa 1 enI ranks).ok w) (ranksl : ranks.length ≤ ranksc) (go : (rowO ga 1 enI g).ok w) (gl : g.length ≤ gc) {r : Bool} (H : F_CableShares c q ranks g = some r) : Calls Try.prog 4 [Value.agg (Cable.cells c ca cc).toArray, Value.slice qa q.length qc, Value.slice ranksa ranks.length ranksc, Value.slice ga g.length gc].toArray w (PostV (Value.bool r) w) := by
  unfold F_CableShares at H
  refine Calls.enter Try.func4 rfl rfl rfl ?_
  refine C.conseq (A' := St w no [] [rowO ca 8 Nd.enc c.nodes, rowO qa 1 enI q, rowO ranksa 1 enI ranks, rowO ga 1 enI g]) (fun _ e => by subst e; exact St.init _ _ (okCons co (okCons qo (okCons rankso (okCons go okNil))))) ?_
  refine C.seq ?_
  refine C.reg ?_
  refine J.box rfl rfl rfl rfl (vs := (Cable.cells c ca cc)) (.t 0 rfl) rfl ?_; intro b1 _  -- 0:0 law.go:116
  refine J.q rfl rfl rfl rfl (Q.assign .c) ?_  -- 0:1 law.go:116
  refine J.end_ ?_
  refine C.keep (.cons 1 rfl (.cons 3 rfl (.cons 4 rfl (.cons 5 rfl .nil)))) ?_
  refine C.seq ?_
  refine C.seq ?_
  obtain ⟨r2, hr3, H⟩ := bd_some H
  refine C.reg ?_
  refine J.q rfl rfl rfl rfl (Q.loadsV (.t 0 rfl) ⟨Try.isAgg26, Try.sizeOf26⟩ (ldT 3 0 rfl (.cons (.cons (.cons .nil)))) rfl) ?_  -- 1:0 law.go:117
  refine J.callV rfl rfl rfl rfl (run_static Try.call11 .f (.cons (.t 0 rfl) .nil) rfl) (fun w hA => long_calls w ca cc (c) (hA.okO 0 rfl) cl hr3) ?_  -- 1:1 law.go:117
  refine J.q rfl rfl rfl rfl (Q.move (.t 0 rfl)) ?_  -- 1:2 law.go:117
  refine J.gQ (Gd.one rfl rfl rfl (.t 0 rfl)) rfl rfl rfl (.p 4 rfl .nil) (fun hg => (Q.move (.t 0 rfl))) ?_  -- 1:3 law.go:117
  refine J.gQ (Gd.one rfl rfl rfl (.t 1 rfl)) rfl rfl rfl (.g 0 rfl .nil) (fun hg => (Q.len Try.underlying32 (.t 0 rfl))) ?_  -- 1:4 law.go:117
  refine J.gQ (Gd.one rfl rfl rfl (.t 2 rfl)) rfl rfl rfl (.g 0 rfl .nil) (fun hg => (Q.gtr (.t 0 rfl) .c)) ?_  -- 1:5 law.go:117
  refine J.q rfl rfl rfl rfl (Q.or_ (.t 3 rfl) (.t 0 rfl)) ?_  -- 1:6 law.go:117
  refine J.q rfl rfl rfl rfl (Q.move (.t 0 rfl)) ?_  -- 1:7 law.go:117
  refine J.gQ (Gd.one rfl rfl rfl (.t 0 rfl)) rfl rfl rfl (.p 10 rfl .nil) (fun hg => (Q.move (.t 0 rfl))) ?_  -- 1:8 law.go:117
  refine J.gQ (Gd.one rfl rfl rfl (.t 1 rfl)) rfl rfl rfl (.g 0 rfl .nil) (fun hg => (Q.len Try.underlying33 (.t 0 rfl))) ?_  -- 1:9 law.go:117
  refine J.gQ (Gd.one rfl rfl rfl (.t 2 rfl)) rfl rfl rfl (.g 0 rfl .nil) (fun hg => (Q.gtr (.t 0 rfl) .c)) ?_  -- 1:10 law.go:117
  refine J.q rfl rfl rfl rfl (Q.or_ (.t 3 rfl) (.t 0 rfl)) ?_  -- 1:11 law.go:117
  refine J.q rfl rfl rfl rfl (Q.move (.t 0 rfl)) ?_  -- 1:12 law.go:117
  refine J.gQ (Gd.one rfl rfl rfl (.t 0 rfl)) rfl rfl rfl (.p 16 rfl .nil) (fun hg => (Q.move (.t 0 rfl))) ?_  -- 1:13 law.go:117
  refine J.gQ (Gd.one rfl rfl rfl (.t 1 rfl)) rfl rfl rfl (.g 0 rfl .nil) (fun hg => (Q.len Try.underlying32 (.t 0 rfl))) ?_  -- 1:14 law.go:117
  refine J.gQ (Gd.one rfl rfl rfl (.t 2 rfl)) rfl rfl rfl (.g 0 rfl .nil) (fun hg => (Q.gtr (.t 0 rfl) .c)) ?_  -- 1:15 law.go:117
  refine J.q rfl rfl rfl rfl (Q.or_ (.t 3 rfl) (.t 0 rfl)) ?_  -- 1:16 law.go:117
  refine J.end_ ?_
  refine C.keep (.cons 0 rfl (.cons 17 rfl (.cons 18 rfl (.cons 19 rfl (.cons 20 rfl .nil))))) ?_
  refine C.cond (.t 0 rfl) (fun c4 => ?_) (fun c4 => ?_)
  ·
    replace H := sel_t c4 H
    refine C.seq ?_
    obtain ⟨r5, hr6, H⟩ := bd_some H
    refine C.reg ?_
    refine J.callV rfl rfl rfl rfl (run_static Try.call7 .f .nil rfl) (fun w hA => fine_calls w   hr6) ?_  -- 2:0 law.go:118
    refine J.q rfl rfl rfl rfl (Q.assign (.t 0 rfl)) ?_  -- 2:1 law.go:118
    refine J.end_ ?_
    refine C.keep (.cons 0 rfl .nil) ?_
    refine C.ret ?_
    refine X.thenRet ?_
    obtain rfl := Option.some.inj H
    refine X.rets (vs := [Value.bool r5]) rfl (.t 0 rfl .nil) (fun w' hA => ?_)
    exact PostV.of hA
  ·
    replace H := sel_f c4 H
    refine C.skip ?_
    refine X.go ?_
    refine C.keep (.cons 1 rfl (.cons 2 rfl (.cons 3 rfl (.cons 4 rfl .nil)))) ?_
    refine C.seq ?_
    obtain ⟨r7, hr8, H⟩ := bd_some H
    refine C.reg ?_
    refine J.q rfl rfl rfl rfl (Q.loadsV (.t 0 rfl) ⟨Try.isAgg26, Try.sizeOf26⟩ (ldT 3 0 rfl (.cons (.cons (.cons .nil)))) rfl) ?_  -- 3:0 law.go:120
    refine J.q rfl rfl rfl rfl (Q.move (.t 2 rfl)) ?_  -- 3:1 law.go:120
    refine J.q rfl rfl rfl rfl (Q.move (.t 4 rfl)) ?_  -- 3:2 law.go:120
    refine J.callN rfl rfl rfl rfl (run_static Try.call9 .f (.cons (.t 2 rfl) (.cons (.t 1 rfl) (.cons (.t 0 rfl) .nil))) rfl) (fun w hA => Share_calls w ca cc (c) qa qc (q) ranksa ranksc (ranks) (hA.okO 0 rfl) cl (hA.okO 1 rfl) ql (hA.okO 2 rfl) ranksl hr8) ?_  -- 3:3 law.go:120
    rintro ⟨a9, c10⟩ _
    refine J.q rfl rfl rfl rfl (Q.move (.t 0 rfl)) ?_  -- 3:4 law.go:120
    refine J.q rfl rfl rfl rfl (Q.extract (.t 0 rfl) rfl) ?_  -- 3:5 law.go:120
    refine J.q rfl rfl rfl rfl (Q.extract (.t 1 rfl) rfl) ?_  -- 3:6 law.go:120
    refine J.q rfl rfl rfl rfl (Q.assign (.t 1 rfl)) ?_  -- 3:7 law.go:120
    refine J.q rfl rfl rfl rfl (Q.assign (.t 1 rfl)) ?_  -- 3:8 law.go:120
    refine J.end_ ?_
    refine C.keep (.cons 0 rfl (.cons 1 rfl (.cons 9 rfl (.cons 10 rfl (.cons 11 rfl (.cons 12 rfl .nil)))))) ?_
    refine C.seq ?_
    obtain ⟨r11, hr12, H⟩ := bd_some H
    refine C.reg ?_
    refine J.q rfl rfl rfl rfl (Q.loadsV (.t 2 rfl) ⟨Try.isAgg26, Try.sizeOf26⟩ (ldT 3 1 rfl (.cons (.cons (.cons .nil)))) rfl) ?_  -- 4:0 law.go:121
    refine J.q rfl rfl rfl rfl (Q.move (.t 4 rfl)) ?_  -- 4:1 law.go:121
    refine J.q rfl rfl rfl rfl (Q.move (.t 6 rfl)) ?_  -- 4:2 law.go:121
    refine J.callN rfl rfl rfl rfl (run_static Try.call12 .f (.cons (.t 2 rfl) (.cons (.t 1 rfl) (.cons (.t 0 rfl) .nil))) rfl) (fun w hA => rShare_calls w ca cc (c) qa qc (q) ranksa ranksc (ranks) (hA.okO 0 rfl) cl (hA.okO 1 rfl) ql (hA.okO 2 rfl) ranksl hr12) ?_  -- 4:3 law.go:121
    rintro ⟨a13, c14⟩ _
    refine J.q rfl rfl rfl rfl (Q.move (.t 0 rfl)) ?_  -- 4:4 law.go:121
    refine J.q rfl rfl rfl rfl (Q.extract (.t 0 rfl) rfl) ?_  -- 4:5 law.go:121
    refine J.q rfl rfl rfl rfl (Q.extract (.t 1 rfl) rfl) ?_  -- 4:6 law.go:121
    refine J.q rfl rfl rfl rfl (Q.assign (.t 1 rfl)) ?_  -- 4:7 law.go:121
    refine J.q rfl rfl rfl rfl (Q.assign (.t 1 rfl)) ?_  -- 4:8 law.go:121
    refine J.end_ ?_
    refine C.keep (.cons 0 rfl (.cons 1 rfl (.cons 9 rfl (.cons 10 rfl (.cons 11 rfl (.cons 14 rfl .nil)))))) ?_
    refine C.seq ?_
    obtain ⟨r15, hr16, H⟩ := bd_some H
    refine C.reg ?_
    refine J.q rfl rfl rfl rfl (Q.loadsV (.t 4 rfl) ⟨Try.isAgg26, Try.sizeOf26⟩ (ldT 3 2 rfl (.cons (.cons (.cons .nil)))) rfl) ?_  -- 5:0 law.go:122
    refine J.q rfl rfl rfl rfl (Q.move (.t 6 rfl)) ?_  -- 5:1 law.go:122
    refine J.callV rfl rfl rfl rfl (run_static Try.call13 .f (.cons (.t 1 rfl) (.cons (.t 0 rfl) .nil)) rfl) (fun w hA => CheckShare_calls w ca cc (c) ga gc (g) (hA.okO 0 rfl) cl (hA.okO 3 rfl) gl hr16) ?_  -- 5:2 law.go:122
    refine J.q rfl rfl rfl rfl (Q.move (.t 0 rfl)) ?_  -- 5:3 law.go:122
    refine J.q rfl rfl rfl rfl (Q.extract (.t 0 rfl) rfl) ?_  -- 5:4 law.go:122
    refine J.q rfl rfl rfl rfl (Q.extract (.t 1 rfl) rfl) ?_  -- 5:5 law.go:122
    refine J.q rfl rfl rfl rfl (Q.assign (.t 1 rfl)) ?_  -- 5:6 law.go:122
    refine J.q rfl rfl rfl rfl (Q.assign (.t 1 rfl)) ?_  -- 5:7 law.go:122
    refine J.end_ ?_
    refine C.keep (.cons 0 rfl (.cons 1 rfl (.cons 8 rfl (.cons 9 rfl (.cons 10 rfl (.cons 11 rfl (.cons 12 rfl (.cons 13 rfl .nil)))))))) ?_
    refine C.seq ?_
    obtain ⟨r17, hr18, H⟩ := bd_some H
    refine C.reg ?_
    refine J.q rfl rfl rfl rfl (Q.loadsV (.t 6 rfl) ⟨Try.isAgg26, Try.sizeOf26⟩ (ldT 3 2 rfl (.cons (.cons (.cons .nil)))) rfl) ?_  -- 6:0 law.go:123
    refine J.q rfl rfl rfl rfl (Q.move (.t 8 rfl)) ?_  -- 6:1 law.go:123
    refine J.callV rfl rfl rfl rfl (run_static Try.call14 .f (.cons (.t 1 rfl) (.cons (.t 0 rfl) .nil)) rfl) (fun w hA => rCheckShare_calls w ca cc (c) ga gc (g) (hA.okO 0 rfl) cl (hA.okO 3 rfl) gl hr18) ?_  -- 6:2 law.go:123
    refine J.q rfl rfl rfl rfl (Q.move (.t 0 rfl)) ?_  -- 6:3 law.go:123
    refine J.q rfl rfl rfl rfl (Q.extract (.t 0 rfl) rfl) ?_  -- 6:4 law.go:123
    refine J.q rfl rfl rfl rfl (Q.extract (.t 1 rfl) rfl) ?_  -- 6:5 law.go:123
    refine J.q rfl rfl rfl rfl (Q.assign (.t 1 rfl)) ?_  -- 6:6 law.go:123
    refine J.q rfl rfl rfl rfl (Q.assign (.t 1 rfl)) ?_  -- 6:7 law.go:123
    refine J.end_ ?_
    refine C.keep (.cons 0 rfl (.cons 1 rfl (.cons 8 rfl (.cons 9 rfl (.cons 10 rfl (.cons 11 rfl (.cons 12 rfl (.cons 13 rfl .nil)))))))) ?_
    refine C.seq ?_
    obtain ⟨r19, hr20, H⟩ := bd_some H
    obtain ⟨r21, hr22, H⟩ := bdg_some H
    refine C.reg ?_
    refine J.q rfl rfl rfl rfl (Q.move (.t 7 rfl)) ?_  -- 7:0 law.go:124
    refine J.q rfl rfl rfl rfl (Q.move (.t 6 rfl)) ?_  -- 7:1 law.go:124
    refine J.callV rfl rfl rfl rfl (run_static Try.call15 .f (.cons (.t 1 rfl) (.cons (.t 0 rfl) .nil)) rfl) (fun w hA => longs_calls w a9 c10 (r7.1) a13 c14 (r11.1) (hA.okG 1 rfl (by decide) (fun _ => rfl)) (hA.leG 1 rfl) (hA.okG 0 rfl (by decide) (fun _ => rfl)) (hA.leG 0 rfl) hr20) ?_  -- 7:2 law.go:124
    refine J.q rfl rfl rfl rfl (Q.move (.t 0 rfl)) ?_  -- 7:3 law.go:124
    refine J.gQ (Gd.one rfl rfl rfl (.t 0 rfl)) rfl rfl rfl (.p 10 rfl .nil) (fun hg => (Q.move (.t 0 rfl))) ?_  -- 7:4 law.go:124
    refine J.gQ (Gd.one rfl rfl rfl (.t 1 rfl)) rfl rfl rfl (.p 9 rfl .nil) (fun hg => (Q.move (.t 0 rfl))) ?_  -- 7:5 law.go:124
    refine J.gQ (Gd.one rfl rfl rfl (.t 2 rfl)) rfl rfl rfl (.g 1 rfl (.g 0 rfl .nil)) (fun hg => (Q.eql (.t 0 rfl) (.t 1 rfl))) ?_  -- 7:6 law.go:124
    refine J.q rfl rfl rfl rfl (Q.and_ (.t 3 rfl) (.t 0 rfl)) ?_  -- 7:7 law.go:124
    refine J.q rfl rfl rfl rfl (Q.move (.t 0 rfl)) ?_  -- 7:8 law.go:124
    refine J.gQ (Gd.one rfl rfl rfl (.t 0 rfl)) rfl rfl rfl (.p 12 rfl .nil) (fun hg => (Q.move (.t 0 rfl))) ?_  -- 7:9 law.go:124
    refine J.gQ (Gd.one rfl rfl rfl (.t 1 rfl)) rfl rfl rfl (.p 11 rfl .nil) (fun hg => (Q.move (.t 0 rfl))) ?_  -- 7:10 law.go:124
    refine J.gQ (Gd.one rfl rfl rfl (.t 2 rfl)) rfl rfl rfl (.g 1 rfl (.g 0 rfl .nil)) (fun hg => (Q.eql (.t 0 rfl) (.t 1 rfl))) ?_  -- 7:11 law.go:124
    refine J.q rfl rfl rfl rfl (Q.and_ (.t 3 rfl) (.t 0 rfl)) ?_  -- 7:12 law.go:124
    refine J.q rfl rfl rfl rfl (Q.move (.t 0 rfl)) ?_  -- 7:13 law.go:124
    refine J.gQ (Gd.one rfl rfl rfl (.t 0 rfl)) rfl rfl rfl (.p 16 rfl .nil) (fun hg => (Q.move (.t 0 rfl))) ?_  -- 7:14 law.go:124
    refine J.gQ (Gd.one rfl rfl rfl (.t 1 rfl)) rfl rfl rfl (.p 15 rfl .nil) (fun hg => (Q.move (.t 0 rfl))) ?_  -- 7:15 law.go:124
    refine J.gQ (Gd.one rfl rfl rfl (.t 2 rfl)) rfl rfl rfl (.g 1 rfl (.g 0 rfl .nil)) (fun hg => (Q.eql (.t 0 rfl) (.t 1 rfl))) ?_  -- 7:16 law.go:124
    refine J.q rfl rfl rfl rfl (Q.and_ (.t 3 rfl) (.t 0 rfl)) ?_  -- 7:17 law.go:124
    refine J.q rfl rfl rfl rfl (Q.move (.t 0 rfl)) ?_  -- 7:18 law.go:124
    refine J.gCall (Gd.one rfl rfl rfl (.t 0 rfl)) rfl rfl rfl .nil (run_static Try.call7 .f .nil rfl) (fun hg w hA => fine_calls w   (hr22 hg)) ?_  -- 7:19 law.go:124
    refine J.q rfl rfl rfl rfl (Q.and_ (.t 1 rfl) (.t 0 rfl)) ?_  -- 7:20 law.go:124
    refine J.q rfl rfl rfl rfl (Q.assign (.t 0 rfl)) ?_  -- 7:21 law.go:124
    refine J.end_ ?_
    refine C.keep (.cons 0 rfl .nil) ?_
    refine C.ret ?_
    obtain rfl := Option.some.inj H
    refine X.rets (vs := [Value.bool ((((r19 && (decide (r7.2 = r11.2))) && (decide (r15.1 = r17.1))) && (decide (r15.2 = r17.2))) && r21)]) rfl (.t 0 rfl .nil) (fun w' hA => ?_)
    exact PostV.of hA

noncomputable def F_CableGranted (c : Cable) (q : (List Int)) (k : (List Int)) : Option Bool := bd (F_valid (c)) fun r2 => (sel (!r2) (bd (F_fine ) fun r5 => (some (r5))) (bd (F_granting (c) (q) (k)) fun r7 => (bd (F_Share (c) (r7.1) (r7.2)) fun r13 => (sel ((decide (r13.2 ≠ (0 : Int))) || (decide ((r13.1.length : Int) ≠ (c.nodes.length : Int)))) (some (false)) (bd (F_CheckShare (c) (r13.1)) fun r18 => (sel ((decide (r18.2 ≠ (0 : Int))) || (decide (r18.1 ≠ (0 : Int)))) (some (false)) (bd (iter (σ := Int) (τ := (Int ⊕ Bool)) (fun v338 => sel (decide (v338 < (r13.1.length : Int))) (ix r13.1 v338 fun x345 => (ixg ((decide (x345 < (0 : Int))) == false) r13.1 v338 fun x348 => (ixg ((decide (x345 < (0 : Int))) == false) r7.1 v338 fun x351 => (sel ((decide (x345 < (0 : Int))) || (decide (x351 < x348))) (some (.inr (.inr (false)))) (ix r13.1 v338 fun x356 => (ix r7.1 v338 fun x359 => (sel (decide (x356 = x359)) (ck (I64ok (v338 + (1 : Int))) (some (.inl (v338 + (1 : Int))))) (bd (F_Path (c) (v338)) fun r364 => (bd (iter (σ := (Int × Bool)) (τ := ((Int × Bool) ⊕ (Int ⊕ (Int ⊕ Bool)))) (fun (v512, v513) => sel (decide (v512 < (r364.1.length : Int))) (ix r364.1 v512 fun x520 => (ixg ((decide (x520 < (0 : Int))) == false) r364.1 v512 fun x523 => (sel ((decide (x520 < (0 : Int))) || (decide ((c.nodes.length : Int) ≤ x523))) (some (.inr (.inr (.inr (.inr (false)))))) (ix r364.1 v512 fun x529 => (bd (F_Subtree (c) (x529)) fun r532 => (bd (iter (σ := (Int × Int)) (τ := ((Int × Int) ⊕ ((Int × Bool) ⊕ ((Int × Bool) ⊕ (Int ⊕ (Int ⊕ Bool)))))) (fun (v552, v553) => sel (decide (v552 < (r532.1.length : Int))) (ix r532.1 v552 fun x560 => (ixg ((decide (x560 < (0 : Int))) == false) r532.1 v552 fun x563 => (sel ((decide (x560 < (0 : Int))) || (decide ((r13.1.length : Int) ≤ x563))) (some (.inr (.inr (.inr (.inr (.inr (.inr (false)))))))) (ix r532.1 v552 fun x570 => (ix r13.1 x570 fun x573 => (ck (I64ok (v553 + x573)) (ck (I64ok (v552 + (1 : Int))) (some (.inl ((v552 + (1 : Int)), (v553 + x573))))))))))) (some (.inr (.inl (v552, v553))))) ((0 : Int), (0 : Int))) (fun t => thn t (fun (v552, v553) => ixg ((v513 == false) && ((decide (r532.2 = (0 : Int))) == true)) r364.1 v512 fun x578 => (ixg ((v513 == false) && ((decide (r532.2 = (0 : Int))) == true)) c.nodes x578 fun x581 => (ck (I64ok (v512 + (1 : Int))) (some (.inl ((v512 + (1 : Int)), (v513 || ((decide (r532.2 = (0 : Int))) && (decide (v553 = x581.limit))))))))))))))))) (some (.inr (.inl (v512, v513))))) ((0 : Int), false)) (fun t => thn t (fun (v512, v513) => sel ((decide (r364.2 ≠ (0 : Int))) || (!v513)) (some (.inr (.inr (false)))) (ck (I64ok (v338 + (1 : Int))) (some (.inl (v338 + (1 : Int)))))))))))))))) (some (.inr (.inl v338)))) (0 : Int)) (fun t => thn t (fun v338 => bd (F_fine ) fun r686 => (some (r686)))))))))))
theorem CableGranted_calls (w : World) (ca : Option Addr) (cc : Nat) (c : Cable) (qa : Option Addr) (qc : Nat) (q : (List Int)) (ka : Option Addr) (kc : Nat) (k : (List Int)) (co : (rowO ca 8 Nd.enc c.nodes).ok w) (cl : c.nodes.length ≤ cc) (qo : (rowO qa 1 (enK .u16) q).ok w) (ql : q.length ≤ qc) (ko : (rowO ka 1 (enK .u8) k).ok w) (kl : k.length ≤ kc) {r : Bool} (H : F_CableGranted c q k = some r) : Calls Try.prog 5 [Value.agg (Cable.cells c ca cc).toArray, Value.slice qa q.length qc, Value.slice ka k.length kc].toArray w (PostV (Value.bool r) w) := by
  unfold F_CableGranted at H
  refine Calls.enter Try.func5 rfl rfl rfl ?_
  refine C.conseq (A' := St w no [] [rowO ca 8 Nd.enc c.nodes, rowO qa 1 (enK .u16) q, rowO ka 1 (enK .u8) k]) (fun _ e => by subst e; exact St.init _ _ (okCons co (okCons qo (okCons ko okNil)))) ?_
  refine C.seq ?_
  refine C.reg ?_
  refine J.box rfl rfl rfl rfl (vs := (Cable.cells c ca cc)) (.t 0 rfl) rfl ?_; intro b1 _  -- 0:0 outright.go:155
  refine J.q rfl rfl rfl rfl (Q.assign .c) ?_  -- 0:1 outright.go:155
  refine J.end_ ?_
  refine C.keep (.cons 1 rfl (.cons 3 rfl (.cons 4 rfl .nil))) ?_
  refine C.seq ?_
  refine C.seq ?_
  obtain ⟨r2, hr3, H⟩ := bd_some H
  refine C.reg ?_
  refine J.q rfl rfl rfl rfl (Q.loadsV (.t 0 rfl) ⟨Try.isAgg26, Try.sizeOf26⟩ (ldT 3 0 rfl (.cons (.cons (.cons .nil)))) rfl) ?_  -- 1:0 outright.go:156
  refine J.callV rfl rfl rfl rfl (run_static Try.call6 .f (.cons (.t 0 rfl) .nil) rfl) (fun w hA => valid_calls w ca cc (c) (hA.okO 0 rfl) cl hr3) ?_  -- 1:1 outright.go:156
  refine J.q rfl rfl rfl rfl (Q.not_ (.t 0 rfl)) ?_  -- 1:2 outright.go:156
  refine J.end_ ?_
  refine C.keep (.cons 0 rfl (.cons 3 rfl (.cons 4 rfl (.cons 5 rfl .nil)))) ?_
  refine C.cond (.t 0 rfl) (fun c4 => ?_) (fun c4 => ?_)
  ·
    replace H := sel_t c4 H
    refine C.seq ?_
    obtain ⟨r5, hr6, H⟩ := bd_some H
    refine C.reg ?_
    refine J.callV rfl rfl rfl rfl (run_static Try.call7 .f .nil rfl) (fun w hA => fine_calls w   hr6) ?_  -- 2:0 outright.go:157
    refine J.q rfl rfl rfl rfl (Q.assign (.t 0 rfl)) ?_  -- 2:1 outright.go:157
    refine J.end_ ?_
    refine C.keep (.cons 0 rfl .nil) ?_
    refine C.ret ?_
    refine X.thenRet ?_
    obtain rfl := Option.some.inj H
    refine X.rets (vs := [Value.bool r5]) rfl (.t 0 rfl .nil) (fun w' hA => ?_)
    exact PostV.of hA
  ·
    replace H := sel_f c4 H
    refine C.skip ?_
    refine X.go ?_
    refine C.keep (.cons 1 rfl (.cons 2 rfl (.cons 3 rfl .nil))) ?_
    refine C.seq ?_
    obtain ⟨r7, hr8, H⟩ := bd_some H
    refine C.reg ?_
    refine J.q rfl rfl rfl rfl (Q.loadsV (.t 0 rfl) ⟨Try.isAgg26, Try.sizeOf26⟩ (ldT 3 0 rfl (.cons (.cons (.cons .nil)))) rfl) ?_  -- 3:0 outright.go:159
    refine J.q rfl rfl rfl rfl (Q.move (.t 2 rfl)) ?_  -- 3:1 outright.go:159
    refine J.q rfl rfl rfl rfl (Q.move (.t 4 rfl)) ?_  -- 3:2 outright.go:159
    refine J.callN rfl rfl rfl rfl (run_static Try.call8 .f (.cons (.t 2 rfl) (.cons (.t 1 rfl) (.cons (.t 0 rfl) .nil))) rfl) (fun w hA => granting_calls w ca cc (c) qa qc (q) ka kc (k) (hA.okO 0 rfl) cl (hA.okO 1 rfl) ql (hA.okO 2 rfl) kl hr8) ?_  -- 3:3 outright.go:159
    rintro ⟨⟨a9, c10⟩, ⟨a11, c12⟩⟩ _
    refine J.splitM ?_
    refine J.q rfl rfl rfl rfl (Q.move (.t 0 rfl)) ?_  -- 3:4 outright.go:159
    refine J.q rfl rfl rfl rfl (Q.extract (.t 0 rfl) rfl) ?_  -- 3:5 outright.go:159
    refine J.q rfl rfl rfl rfl (Q.extract (.t 1 rfl) rfl) ?_  -- 3:6 outright.go:159
    refine J.q rfl rfl rfl rfl (Q.assign (.t 1 rfl)) ?_  -- 3:7 outright.go:159
    refine J.q rfl rfl rfl rfl (Q.assign (.t 1 rfl)) ?_  -- 3:8 outright.go:159
    refine J.end_ ?_
    refine C.keep (.cons 0 rfl (.cons 1 rfl (.cons 9 rfl .nil))) ?_
    refine C.seq ?_
    obtain ⟨r13, hr14, H⟩ := bd_some H
    refine C.reg ?_
    refine J.q rfl rfl rfl rfl (Q.loadsV (.t 2 rfl) ⟨Try.isAgg26, Try.sizeOf26⟩ (ldT 3 2 rfl (.cons (.cons (.cons .nil)))) rfl) ?_  -- 4:0 outright.go:160
    refine J.q rfl rfl rfl rfl (Q.move (.t 2 rfl)) ?_  -- 4:1 outright.go:160
    refine J.q rfl rfl rfl rfl (Q.move (.t 2 rfl)) ?_  -- 4:2 outright.go:160
    refine J.callN rfl rfl rfl rfl (run_static Try.call9 .f (.cons (.t 2 rfl) (.cons (.t 1 rfl) (.cons (.t 0 rfl) .nil))) rfl) (fun w hA => Share_calls w ca cc (c) a9 c10 (r7.1) a11 c12 (r7.2) (hA.okO 0 rfl) cl (hA.okG 0 rfl (by decide) (fun _ => rfl)) (hA.leG 0 rfl) (hA.okG 1 rfl (by decide) (fun _ => rfl)) (hA.leG 1 rfl) hr14) ?_  -- 4:3 outright.go:160
    rintro ⟨a15, c16⟩ _
    refine J.q rfl rfl rfl rfl (Q.move (.t 0 rfl)) ?_  -- 4:4 outright.go:160
    refine J.q rfl rfl rfl rfl (Q.extract (.t 0 rfl) rfl) ?_  -- 4:5 outright.go:160
    refine J.q rfl rfl rfl rfl (Q.extract (.t 1 rfl) rfl) ?_  -- 4:6 outright.go:160
    refine J.q rfl rfl rfl rfl (Q.assign (.t 1 rfl)) ?_  -- 4:7 outright.go:160
    refine J.q rfl rfl rfl rfl (Q.assign (.t 1 rfl)) ?_  -- 4:8 outright.go:160
    refine J.end_ ?_
    refine C.keep (.cons 0 rfl (.cons 1 rfl (.cons 10 rfl (.cons 11 rfl .nil)))) ?_
    refine C.seq ?_
    refine C.seq ?_
    refine C.reg ?_
    refine J.q rfl rfl rfl rfl (Q.move (.t 0 rfl)) ?_  -- 5:0 outright.go:161
    refine J.q rfl rfl rfl rfl (Q.neq (.t 0 rfl) .c) ?_  -- 5:1 outright.go:161
    refine J.q rfl rfl rfl rfl (Q.move (.t 0 rfl)) ?_  -- 5:2 outright.go:161
    refine J.gQ (Gd.one rfl rfl rfl (.t 0 rfl)) rfl rfl rfl (.p 4 rfl .nil) (fun hg => (Q.move (.t 0 rfl))) ?_  -- 5:3 outright.go:161
    refine J.gQ (Gd.one rfl rfl rfl (.t 1 rfl)) rfl rfl rfl (.g 0 rfl .nil) (fun hg => (Q.len Try.underlying32 (.t 0 rfl))) ?_  -- 5:4 outright.go:161
    refine J.gQ (Gd.one rfl rfl rfl (.t 2 rfl)) rfl rfl rfl (.p 8 rfl .nil) (fun hg => (Q.fa0 2 Try.underlying26 rfl Try.sizeOf24 rfl rfl (.t 0 rfl))) ?_  -- 5:5 outright.go:161
    refine J.gQ (Gd.one rfl rfl rfl (.t 3 rfl)) rfl rfl rfl (.g 0 rfl .nil) (fun hg => (Q.load (.t 0 rfl) Try.isAgg24 (ldT 1 3 rfl (.skip (.skip (.cons .nil)))))) ?_  -- 5:6 outright.go:161
    refine J.gQ (Gd.one rfl rfl rfl (.t 4 rfl)) rfl rfl rfl (.g 0 rfl .nil) (fun hg => (Q.len Try.underlying24 (.t 0 rfl))) ?_  -- 5:7 outright.go:161
    refine J.gQ (Gd.one rfl rfl rfl (.t 5 rfl)) rfl rfl rfl (.g 3 rfl (.g 0 rfl .nil)) (fun hg => (Q.neq (.t 0 rfl) (.t 1 rfl))) ?_  -- 5:8 outright.go:161
    refine J.q rfl rfl rfl rfl (Q.or_ (.t 6 rfl) (.t 0 rfl)) ?_  -- 5:9 outright.go:161
    refine J.end_ ?_
    refine C.keep (.cons 0 rfl (.cons 11 rfl (.cons 12 rfl (.cons 13 rfl .nil)))) ?_
    refine C.cond (.t 0 rfl) (fun c17 => ?_) (fun c17 => ?_)
    ·
      replace H := sel_t c17 H
      refine C.seq ?_
      refine C.reg ?_
      refine J.q rfl rfl rfl rfl (Q.assign .c) ?_  -- 6:0 outright.go:162
      refine J.end_ ?_
      refine C.keep (.cons 0 rfl .nil) ?_
      refine C.ret ?_
      refine X.thenRet ?_
      obtain rfl := Option.some.inj H
      refine X.rets (vs := [Value.bool false]) rfl (.t 0 rfl .nil) (fun w' hA => ?_)
      exact PostV.of hA
    ·
      replace H := sel_f c17 H
      refine C.skip ?_
      refine X.go ?_
      refine C.keep (.cons 1 rfl (.cons 2 rfl (.cons 3 rfl .nil))) ?_
      refine C.seq ?_
      obtain ⟨r18, hr19, H⟩ := bd_some H
      refine C.reg ?_
      refine J.q rfl rfl rfl rfl (Q.loadsV (.t 2 rfl) ⟨Try.isAgg26, Try.sizeOf26⟩ (ldT 3 3 rfl (.cons (.cons (.cons .nil)))) rfl) ?_  -- 7:0 outright.go:164
      refine J.q rfl rfl rfl rfl (Q.move (.t 1 rfl)) ?_  -- 7:1 outright.go:164
      refine J.callV rfl rfl rfl rfl (run_static Try.call13 .f (.cons (.t 1 rfl) (.cons (.t 0 rfl) .nil)) rfl) (fun w hA => CheckShare_calls w ca cc (c) a15 c16 (r13.1) (hA.okO 0 rfl) cl (hA.okG 0 rfl (by decide) (fun _ => rfl)) (hA.leG 0 rfl) hr19) ?_  -- 7:2 outright.go:164
      refine J.q rfl rfl rfl rfl (Q.move (.t 0 rfl)) ?_  -- 7:3 outright.go:164
      refine J.q rfl rfl rfl rfl (Q.extract (.t 0 rfl) rfl) ?_  -- 7:4 outright.go:164
      refine J.q rfl rfl rfl rfl (Q.extract (.t 1 rfl) rfl) ?_  -- 7:5 outright.go:164
      refine J.q rfl rfl rfl rfl (Q.assign (.t 1 rfl)) ?_  -- 7:6 outright.go:164
      refine J.q rfl rfl rfl rfl (Q.assign (.t 1 rfl)) ?_  -- 7:7 outright.go:164
      refine J.end_ ?_
      refine C.keep (.cons 0 rfl (.cons 1 rfl (.cons 8 rfl (.cons 9 rfl (.cons 10 rfl .nil))))) ?_
      refine C.seq ?_
      refine C.seq ?_
      refine C.reg ?_
      refine J.q rfl rfl rfl rfl (Q.move (.t 0 rfl)) ?_  -- 8:0 outright.go:165
      refine J.q rfl rfl rfl rfl (Q.neq (.t 0 rfl) .c) ?_  -- 8:1 outright.go:165
      refine J.q rfl rfl rfl rfl (Q.move (.t 0 rfl)) ?_  -- 8:2 outright.go:165
      refine J.gQ (Gd.one rfl rfl rfl (.t 0 rfl)) rfl rfl rfl (.p 4 rfl .nil) (fun hg => (Q.move (.t 0 rfl))) ?_  -- 8:3 outright.go:165
      refine J.gQ (Gd.one rfl rfl rfl (.t 1 rfl)) rfl rfl rfl (.g 0 rfl .nil) (fun hg => (Q.neq (.t 0 rfl) .c)) ?_  -- 8:4 outright.go:165
      refine J.q rfl rfl rfl rfl (Q.or_ (.t 2 rfl) (.t 0 rfl)) ?_  -- 8:5 outright.go:165
      refine J.end_ ?_
      refine C.keep (.cons 0 rfl (.cons 8 rfl (.cons 9 rfl (.cons 10 rfl .nil)))) ?_
      refine C.cond (.t 0 rfl) (fun c20 => ?_) (fun c20 => ?_)
      ·
        replace H := sel_t c20 H
        refine C.seq ?_
        refine C.reg ?_
        refine J.q rfl rfl rfl rfl (Q.assign .c) ?_  -- 9:0 outright.go:166
        refine J.end_ ?_
        refine C.keep (.cons 0 rfl .nil) ?_
        refine C.ret ?_
        refine X.thenRet ?_
        obtain rfl := Option.some.inj H
        refine X.rets (vs := [Value.bool false]) rfl (.t 0 rfl .nil) (fun w' hA => ?_)
        exact PostV.of hA
      ·
        replace H := sel_f c20 H
        refine C.skip ?_
        refine X.go ?_
        refine C.keep (.cons 1 rfl (.cons 2 rfl (.cons 3 rfl .nil))) ?_
        refine C.seq ?_
        refine C.seq ?_
        refine C.reg ?_
        refine J.q rfl rfl rfl rfl (Q.assign .c) ?_  -- 10:0 outright.go:168
        refine J.end_ ?_
        refine C.block ?_
        obtain ⟨t339, ht340, H⟩ := bd_some H
        refine C.it_1 (fun s r => Value.int .i64 s) (fun s r => St w no [rowG 2 1 a15 r13.1.length c16 (r13.1.flatMap enI), rowG 2 1 a9 r7.1.length c10 (r7.1.flatMap enI), bx b1 26 (Cable.cells c ca cc)] [rowO ca 8 Nd.enc c.nodes, rowO qa 1 (enK .u16) q, rowO ka 1 (enK .u8) k]) (0 : Int) () ht340 rfl (fun _ h => h.to (.cons .here (.cons .here (.cons (.there .here) .drop)))) ?_
        rintro v338 ⟨⟩ o341 H343 ho342
        try dsimp only at H343 ⊢
        refine C.seq ?_
        refine C.seq ?_
        refine C.reg ?_
        refine J.q rfl rfl rfl rfl (Q.move (.t 0 rfl)) ?_  -- 11:0 outright.go:168
        refine J.q rfl rfl rfl rfl (Q.move (.t 2 rfl)) ?_  -- 11:1 outright.go:168
        refine J.q rfl rfl rfl rfl (Q.len Try.underlying32 (.t 0 rfl)) ?_  -- 11:2 outright.go:168
        refine J.q rfl rfl rfl rfl (Q.lss (.t 2 rfl) (.t 0 rfl)) ?_  -- 11:3 outright.go:168
        refine J.end_ ?_
        refine C.keep (.cons 0 rfl (.cons 4 rfl (.cons 5 rfl (.cons 6 rfl (.cons 7 rfl .nil))))) ?_
        refine C.cond (.t 0 rfl) (fun c344 => ?_) (fun c344 => ?_)
        ·
          replace H343 := sel_t c344 H343
          refine C.skip ?_
          refine X.go ?_
          refine C.keep (.cons 1 rfl (.cons 2 rfl (.cons 3 rfl (.cons 4 rfl .nil)))) ?_
          refine C.seq ?_
          refine C.block ?_
          refine C.seq ?_
          refine C.seq ?_
          obtain ⟨x345, hx346, hi347, H343⟩ := ix_some H343
          obtain ⟨x348, hx349, hi350, H343⟩ := ixg_some H343
          obtain ⟨x351, hx352, hi353, H343⟩ := ixg_some H343
          refine C.drawS ?_
          refine JC.q 0 rfl rfl rfl rfl (Q.move (.t 1 rfl)) ?_  -- 13:0 outright.go:169
          refine JC.q 1 rfl rfl rfl rfl (Q.move (.t 1 rfl)) ?_  -- 13:1 outright.go:169
          refine JC.q 2 rfl rfl rfl rfl (Q.ixG 0 rfl Try.underlying32 Try.sizeOf2 (.t 1 rfl) (.t 0 rfl) hi347) ?_  -- 13:2 outright.go:169
          refine JC.q 3 rfl rfl rfl rfl (Q.load (.t 0 rfl) Try.isAgg2 (ldGa0 (sz := 1) (enc := enI) 1 0 rfl (by decide) (fun _ => rfl) hx346 (.cons .nil))) ?_  -- 13:3 outright.go:169
          refine JC.q 4 rfl rfl rfl rfl (Q.lss (.t 0 rfl) .c) ?_  -- 13:4 outright.go:169
          refine JC.q 5 rfl rfl rfl rfl (Q.move (.t 0 rfl)) ?_  -- 13:5 outright.go:169
          refine JC.gQ 6 rfl (Gd.one rfl rfl rfl (.t 0 rfl)) rfl rfl (.p 7 rfl .nil) (fun hg => (Q.move (.t 0 rfl))) ?_  -- 13:6 outright.go:169
          refine JC.gQ 7 rfl (Gd.one rfl rfl rfl (.t 1 rfl)) rfl rfl (.p 7 rfl .nil) (fun hg => (Q.move (.t 0 rfl))) ?_  -- 13:7 outright.go:169
          refine JC.gQ 8 rfl (Gd.one rfl rfl rfl (.t 2 rfl)) rfl rfl (.g 1 rfl (.g 0 rfl .nil)) (fun hg => (Q.ixG 0 rfl Try.underlying32 Try.sizeOf2 (.t 0 rfl) (.t 1 rfl) (hi350 hg))) ?_  -- 13:8 outright.go:169
          refine JC.gQ 9 rfl (Gd.one rfl rfl rfl (.t 3 rfl)) rfl rfl (.g 0 rfl .nil) (fun hg => (Q.load (.t 0 rfl) Try.isAgg2 (ldGa0 (sz := 1) (enc := enI) 1 0 rfl (by decide) (fun _ => rfl) (hx349 hg) (.cons .nil)))) ?_  -- 13:9 outright.go:169
          refine JC.gQ 10 rfl (Gd.one rfl rfl rfl (.t 4 rfl)) rfl rfl (.p 12 rfl .nil) (fun hg => (Q.move (.t 0 rfl))) ?_  -- 13:10 outright.go:169
          refine JC.gQ 11 rfl (Gd.one rfl rfl rfl (.t 5 rfl)) rfl rfl (.p 11 rfl .nil) (fun hg => (Q.move (.t 0 rfl))) ?_  -- 13:11 outright.go:169
          refine JC.gQ 12 rfl (Gd.one rfl rfl rfl (.t 6 rfl)) rfl rfl (.g 1 rfl (.g 0 rfl .nil)) (fun hg => (Q.ixG 1 rfl Try.underlying32 Try.sizeOf2 (.t 0 rfl) (.t 1 rfl) (hi353 hg))) ?_  -- 13:12 outright.go:169
          refine JC.gQ 13 rfl (Gd.one rfl rfl rfl (.t 7 rfl)) rfl rfl (.g 0 rfl .nil) (fun hg => (Q.load (.t 0 rfl) Try.isAgg2 (ldGa0 (sz := 1) (enc := enI) 1 1 rfl (by decide) (fun _ => rfl) (hx352 hg) (.cons .nil)))) ?_  -- 13:13 outright.go:169
          refine JC.gQ 14 rfl (Gd.one rfl rfl rfl (.t 8 rfl)) rfl rfl (.g 4 rfl (.g 0 rfl .nil)) (fun hg => (Q.gtr (.t 0 rfl) (.t 1 rfl))) ?_  -- 13:14 outright.go:169
          refine JC.q 15 rfl rfl rfl rfl (Q.or_ (.t 9 rfl) (.t 0 rfl)) ?_  -- 13:15 outright.go:169
          refine JC.tail [0, 0, 3, 7, 15, 31, 63, 63, 255, 511, 63, 63, 3135, 7231, 16383, 32767] 0 mixed (by kernel_rfl) (by kernel_rfl) (fun _ h => h) ?_
          refine JT.end_ ?_
          refine X.go ?_
          refine C.keep (.cons 0 rfl (.cons 16 rfl (.cons 17 rfl (.cons 18 rfl (.cons 19 rfl .nil))))) ?_
          refine C.cond (.t 0 rfl) (fun c354 => ?_) (fun c354 => ?_)
          ·
            replace H343 := sel_t c354 H343
            refine C.seq ?_
            refine C.reg ?_
            refine J.q rfl rfl rfl rfl (Q.assign .c) ?_  -- 14:0 outright.go:170
            refine J.end_ ?_
            refine C.keep (.cons 0 rfl .nil) ?_
            refine C.ret ?_
            refine X.thenRet ?_
            refine X.inRet ?_
            refine X.thenRet ?_
            refine X.thenRet ?_
            obtain rfl := Option.some.inj H343
            obtain rfl := ho342
            try dsimp only [thn] at H
            refine X.inRet ?_
            refine X.thenRet ?_
            obtain rfl := Option.some.inj H
            refine X.rets (vs := [Value.bool false]) rfl (.t 0 rfl .nil) (fun w' hA => ?_)
            exact PostV.of hA
          ·
            replace H343 := sel_f c354 H343
            refine C.skip ?_
            refine X.go ?_
            refine C.keep (.cons 1 rfl (.cons 2 rfl (.cons 3 rfl (.cons 4 rfl .nil)))) ?_
            refine C.seq ?_
            refine C.seq ?_
            obtain ⟨x356, hx357, hi358, H343⟩ := ix_some H343
            obtain ⟨x359, hx360, hi361, H343⟩ := ix_some H343
            refine C.drawS ?_
            refine JC.q 0 rfl rfl rfl rfl (Q.move (.t 1 rfl)) ?_  -- 15:0 outright.go:172
            refine JC.q 1 rfl rfl rfl rfl (Q.move (.t 1 rfl)) ?_  -- 15:1 outright.go:172
            refine JC.q 2 rfl rfl rfl rfl (Q.ixG 0 rfl Try.underlying32 Try.sizeOf2 (.t 1 rfl) (.t 0 rfl) hi358) ?_  -- 15:2 outright.go:172
            refine JC.q 3 rfl rfl rfl rfl (Q.load (.t 0 rfl) Try.isAgg2 (ldGa0 (sz := 1) (enc := enI) 1 0 rfl (by decide) (fun _ => rfl) hx357 (.cons .nil))) ?_  -- 15:3 outright.go:172
            refine JC.q 4 rfl rfl rfl rfl (Q.move (.t 6 rfl)) ?_  -- 15:4 outright.go:172
            refine JC.q 5 rfl rfl rfl rfl (Q.move (.t 5 rfl)) ?_  -- 15:5 outright.go:172
            refine JC.q 6 rfl rfl rfl rfl (Q.ixG 1 rfl Try.underlying32 Try.sizeOf2 (.t 1 rfl) (.t 0 rfl) hi361) ?_  -- 15:6 outright.go:172
            refine JC.q 7 rfl rfl rfl rfl (Q.load (.t 0 rfl) Try.isAgg2 (ldGa0 (sz := 1) (enc := enI) 1 1 rfl (by decide) (fun _ => rfl) hx360 (.cons .nil))) ?_  -- 15:7 outright.go:172
            refine JC.q 8 rfl rfl rfl rfl (Q.eql (.t 4 rfl) (.t 0 rfl)) ?_  -- 15:8 outright.go:172
            refine JC.tail [0, 0, 3, 7, 0, 0, 48, 112, 255] 0 mixed (by kernel_rfl) (by kernel_rfl) (fun _ h => h) ?_
            refine JT.end_ ?_
            refine X.go ?_
            refine C.keep (.cons 0 rfl (.cons 9 rfl (.cons 10 rfl (.cons 11 rfl (.cons 12 rfl .nil))))) ?_
            refine C.cond (.t 0 rfl) (fun c362 => ?_) (fun c362 => ?_)
            ·
              replace H343 := sel_t c362 H343
              refine C.exit ?_
              refine X.thenExit ?_
              refine X.inHit ?_
              refine X.go ?_
              refine C.keep (.cons 1 rfl (.cons 2 rfl (.cons 3 rfl (.cons 4 rfl .nil)))) ?_
              obtain ⟨h363, H343⟩ := ck_some H343
              refine C.reg ?_
              refine J.q rfl rfl rfl rfl (Q.move (.t 0 rfl)) ?_  -- 12:0 outright.go:168
              refine J.q rfl rfl rfl rfl (Q.add (.t 0 rfl) .c h363) ?_  -- 12:1 outright.go:168
              refine J.keep (.cons 0 rfl (.cons 1 rfl (.cons 3 rfl (.cons 4 rfl (.cons 5 rfl .nil))))) ?_
              refine J.q rfl rfl rfl rfl (Q.assign (.t 0 rfl)) ?_  -- 12:2 outright.go:168
              refine J.done ?_
              obtain rfl := Option.some.inj H343
              exact X.nxi (v338 + (1 : Int)) () ho342 (.cons 0 rfl (.cons 3 rfl (.cons 4 rfl (.cons 5 rfl .nil)))) (fun _ h => h)
            ·
              replace H343 := sel_f c362 H343
              refine C.skip ?_
              refine X.go ?_
              refine C.keep (.cons 1 rfl (.cons 2 rfl (.cons 3 rfl (.cons 4 rfl .nil)))) ?_
              refine C.seq ?_
              obtain ⟨r364, hr365, H343⟩ := bd_some H343
              refine C.reg ?_
              refine J.q rfl rfl rfl rfl (Q.loadsV (.t 3 rfl) ⟨Try.isAgg26, Try.sizeOf26⟩ (ldT 3 2 rfl (.cons (.cons (.cons .nil)))) rfl) ?_  -- 16:0 outright.go:175
              refine J.q rfl rfl rfl rfl (Q.move (.t 1 rfl)) ?_  -- 16:1 outright.go:175
              refine J.callN rfl rfl rfl rfl (run_static Try.call16 .f (.cons (.t 1 rfl) (.cons (.t 0 rfl) .nil)) rfl) (fun w hA => Path_calls w ca cc (c) (v338) (hA.okO 0 rfl) cl hr365) ?_  -- 16:2 outright.go:175
              rintro ⟨a366, c367⟩ _
              refine J.q rfl rfl rfl rfl (Q.move (.t 0 rfl)) ?_  -- 16:3 outright.go:175
              refine J.q rfl rfl rfl rfl (Q.extract (.t 0 rfl) rfl) ?_  -- 16:4 outright.go:175
              refine J.q rfl rfl rfl rfl (Q.extract (.t 1 rfl) rfl) ?_  -- 16:5 outright.go:175
              refine J.q rfl rfl rfl rfl (Q.assign (.t 1 rfl)) ?_  -- 16:6 outright.go:175
              refine J.q rfl rfl rfl rfl (Q.assign (.t 1 rfl)) ?_  -- 16:7 outright.go:175
              refine J.end_ ?_
              refine C.keep (.cons 0 rfl (.cons 1 rfl (.cons 8 rfl (.cons 9 rfl (.cons 10 rfl (.cons 11 rfl .nil)))))) ?_
              refine C.seq ?_
              refine C.reg ?_
              refine J.q rfl rfl rfl rfl (Q.assign .c) ?_  -- 17:0 outright.go:176
              refine J.end_ ?_
              refine C.seq ?_
              refine C.seq ?_
              refine C.reg ?_
              refine J.q rfl rfl rfl rfl (Q.assign .c) ?_  -- 18:0 outright.go:177
              refine J.end_ ?_
              refine C.block ?_
              obtain ⟨t514, ht515, H343⟩ := bd_some H343
              refine C.it_2 (fun s r => Value.int .i64 s.1) (fun s r => Value.bool s.2) (fun s r => St w no [rowG 3 1 a366 r364.1.length c367 (r364.1.flatMap enI), rowG 2 1 a15 r13.1.length c16 (r13.1.flatMap enI), rowG 2 1 a9 r7.1.length c10 (r7.1.flatMap enI), bx b1 26 (Cable.cells c ca cc)] [rowO ca 8 Nd.enc c.nodes, rowO qa 1 (enK .u16) q, rowO ka 1 (enK .u8) k]) ((0 : Int), false) () ht515 rfl rfl (fun _ h => h) ?_
              rintro ⟨v512, v513⟩ ⟨⟩ o516 H518 ho517
              try dsimp only at H518 ⊢
              refine C.seq ?_
              refine C.seq ?_
              refine C.reg ?_
              refine J.q rfl rfl rfl rfl (Q.move (.t 0 rfl)) ?_  -- 19:0 outright.go:177
              refine J.q rfl rfl rfl rfl (Q.move (.t 4 rfl)) ?_  -- 19:1 outright.go:177
              refine J.q rfl rfl rfl rfl (Q.len Try.underlying33 (.t 0 rfl)) ?_  -- 19:2 outright.go:177
              refine J.q rfl rfl rfl rfl (Q.lss (.t 2 rfl) (.t 0 rfl)) ?_  -- 19:3 outright.go:177
              refine J.end_ ?_
              refine C.keep (.cons 0 rfl (.cons 4 rfl (.cons 5 rfl (.cons 6 rfl (.cons 7 rfl (.cons 8 rfl (.cons 9 rfl (.cons 10 rfl (.cons 11 rfl .nil))))))))) ?_
              refine C.cond (.t 0 rfl) (fun c519 => ?_) (fun c519 => ?_)
              ·
                replace H518 := sel_t c519 H518
                refine C.skip ?_
                refine X.go ?_
                refine C.keep (.cons 1 rfl (.cons 2 rfl (.cons 3 rfl (.cons 4 rfl (.cons 5 rfl (.cons 6 rfl (.cons 7 rfl (.cons 8 rfl .nil)))))))) ?_
                refine C.seq ?_
                refine C.block ?_
                refine C.seq ?_
                refine C.seq ?_
                obtain ⟨x520, hx521, hi522, H518⟩ := ix_some H518
                obtain ⟨x523, hx524, hi525, H518⟩ := ixg_some H518
                refine C.drawS ?_
                refine JC.q 0 rfl rfl rfl rfl (Q.move (.t 3 rfl)) ?_  -- 21:0 outright.go:178
                refine JC.q 1 rfl rfl rfl rfl (Q.move (.t 1 rfl)) ?_  -- 21:1 outright.go:178
                refine JC.q 2 rfl rfl rfl rfl (Q.ixG 0 rfl Try.underlying33 Try.sizeOf3 (.t 1 rfl) (.t 0 rfl) hi522) ?_  -- 21:2 outright.go:178
                refine JC.q 3 rfl rfl rfl rfl (Q.load (.t 0 rfl) Try.isAgg3 (ldGa0 (sz := 1) (enc := enI) 1 0 rfl (by decide) (fun _ => rfl) hx521 (.cons .nil))) ?_  -- 21:3 outright.go:178
                refine JC.q 4 rfl rfl rfl rfl (Q.lss (.t 0 rfl) .c) ?_  -- 21:4 outright.go:178
                refine JC.q 5 rfl rfl rfl rfl (Q.move (.t 0 rfl)) ?_  -- 21:5 outright.go:178
                refine JC.gQ 6 rfl (Gd.one rfl rfl rfl (.t 0 rfl)) rfl rfl (.p 9 rfl .nil) (fun hg => (Q.move (.t 0 rfl))) ?_  -- 21:6 outright.go:178
                refine JC.gQ 7 rfl (Gd.one rfl rfl rfl (.t 1 rfl)) rfl rfl (.p 7 rfl .nil) (fun hg => (Q.move (.t 0 rfl))) ?_  -- 21:7 outright.go:178
                refine JC.gQ 8 rfl (Gd.one rfl rfl rfl (.t 2 rfl)) rfl rfl (.g 1 rfl (.g 0 rfl .nil)) (fun hg => (Q.ixG 0 rfl Try.underlying33 Try.sizeOf3 (.t 0 rfl) (.t 1 rfl) (hi525 hg))) ?_  -- 21:8 outright.go:178
                refine JC.gQ 9 rfl (Gd.one rfl rfl rfl (.t 3 rfl)) rfl rfl (.g 0 rfl .nil) (fun hg => (Q.load (.t 0 rfl) Try.isAgg3 (ldGa0 (sz := 1) (enc := enI) 1 0 rfl (by decide) (fun _ => rfl) (hx524 hg) (.cons .nil)))) ?_  -- 21:9 outright.go:178
                refine JC.gQ 10 rfl (Gd.one rfl rfl rfl (.t 4 rfl)) rfl rfl (.p 17 rfl .nil) (fun hg => (Q.fa0 2 Try.underlying26 rfl Try.sizeOf24 rfl rfl (.t 0 rfl))) ?_  -- 21:10 outright.go:178
                refine JC.gQ 11 rfl (Gd.one rfl rfl rfl (.t 5 rfl)) rfl rfl (.g 0 rfl .nil) (fun hg => (Q.load (.t 0 rfl) Try.isAgg24 (ldT 1 3 rfl (.skip (.skip (.cons .nil)))))) ?_  -- 21:11 outright.go:178
                refine JC.gQ 12 rfl (Gd.one rfl rfl rfl (.t 6 rfl)) rfl rfl (.g 0 rfl .nil) (fun hg => (Q.len Try.underlying24 (.t 0 rfl))) ?_  -- 21:12 outright.go:178
                refine JC.gQ 13 rfl (Gd.one rfl rfl rfl (.t 7 rfl)) rfl rfl (.g 3 rfl (.g 0 rfl .nil)) (fun hg => (Q.geq (.t 0 rfl) (.t 1 rfl))) ?_  -- 21:13 outright.go:178
                refine JC.q 14 rfl rfl rfl rfl (Q.or_ (.t 8 rfl) (.t 0 rfl)) ?_  -- 21:14 outright.go:178
                refine JC.tail [0, 0, 3, 7, 15, 31, 63, 63, 255, 511, 63, 1087, 3135, 8191, 16383] 0 mixed (by kernel_rfl) (by kernel_rfl) (fun _ h => h) ?_
                refine JT.end_ ?_
                refine X.go ?_
                refine C.keep (.cons 0 rfl (.cons 15 rfl (.cons 16 rfl (.cons 17 rfl (.cons 18 rfl (.cons 19 rfl (.cons 20 rfl (.cons 21 rfl (.cons 22 rfl .nil))))))))) ?_
                refine C.cond (.t 0 rfl) (fun c526 => ?_) (fun c526 => ?_)
                ·
                  replace H518 := sel_t c526 H518
                  refine C.seq ?_
                  refine C.reg ?_
                  refine J.q rfl rfl rfl rfl (Q.assign .c) ?_  -- 22:0 outright.go:179
                  refine J.end_ ?_
                  refine C.keep (.cons 0 rfl .nil) ?_
                  refine C.ret ?_
                  refine X.thenRet ?_
                  refine X.inRet ?_
                  refine X.thenRet ?_
                  refine X.thenRet ?_
                  obtain rfl := Option.some.inj H518
                  obtain rfl := ho517
                  try dsimp only [thn] at H343
                  refine X.inRet ?_
                  refine X.thenRet ?_
                  refine X.inRet ?_
                  refine X.thenRet ?_
                  refine X.thenRet ?_
                  obtain rfl := Option.some.inj H343
                  obtain rfl := ho342
                  try dsimp only [thn] at H
                  refine X.inRet ?_
                  refine X.thenRet ?_
                  obtain rfl := Option.some.inj H
                  refine X.rets (vs := [Value.bool false]) rfl (.t 0 rfl .nil) (fun w' hA => ?_)
                  exact PostV.of hA
                ·
                  replace H518 := sel_f c526 H518
                  refine C.skip ?_
                  refine X.go ?_
                  refine C.keep (.cons 1 rfl (.cons 2 rfl (.cons 3 rfl (.cons 4 rfl (.cons 5 rfl (.cons 6 rfl (.cons 7 rfl (.cons 8 rfl .nil)))))))) ?_
                  refine C.seq ?_
                  obtain ⟨x529, hx530, hi531, H518⟩ := ix_some H518
                  obtain ⟨r532, hr533, H518⟩ := bd_some H518
                  refine C.drawS ?_
                  refine JC.q 0 rfl rfl rfl rfl (Q.loadsV (.t 7 rfl) ⟨Try.isAgg26, Try.sizeOf26⟩ (ldT 3 3 rfl (.cons (.cons (.cons .nil)))) rfl) ?_  -- 23:0 outright.go:181
                  refine JC.q 1 rfl rfl rfl rfl (Q.move (.t 4 rfl)) ?_  -- 23:1 outright.go:181
                  refine JC.q 2 rfl rfl rfl rfl (Q.move (.t 2 rfl)) ?_  -- 23:2 outright.go:181
                  refine JC.q 3 rfl rfl rfl rfl (Q.ixG 0 rfl Try.underlying33 Try.sizeOf3 (.t 1 rfl) (.t 0 rfl) hi531) ?_  -- 23:3 outright.go:181
                  refine JC.q 4 rfl rfl rfl rfl (Q.load (.t 0 rfl) Try.isAgg3 (ldGa0 (sz := 1) (enc := enI) 1 0 rfl (by decide) (fun _ => rfl) hx530 (.cons .nil))) ?_  -- 23:4 outright.go:181
                  refine JC.tail [0, 0, 0, 6, 14, 31, 63, 127, 127, 255, 1023] 6 mixed (by kernel_rfl) (by kernel_rfl) (fun _ h => h) ?_
                  refine JT.pick [5] (by kernel_rfl) (.cons (DStep.of rfl ?_) .nil)
                  refine J.callN rfl rfl rfl rfl (run_static Try.call17 .f (.cons (.t 4 rfl) (.cons (.t 0 rfl) .nil)) rfl) (fun w hA => Subtree_calls w ca cc (c) (x529) (hA.okO 0 rfl) cl hr533) ?_  -- 23:5 outright.go:181
                  rintro ⟨a534, c535⟩ _
                  refine J.finF rfl rfl ?_
                  refine JT.pick [6] (by kernel_rfl) (.cons (DStep.of rfl ?_) .nil)
                  refine J.q rfl rfl rfl rfl (Q.move (.t 0 rfl)) ?_  -- 23:6 outright.go:181
                  refine J.finF rfl rfl ?_
                  refine JT.pick [7, 8] (by kernel_rfl) (.cons (DStep.of rfl ?_) (.cons (DStep.of rfl ?_) .nil))
                  ·
                    refine J.q rfl rfl rfl rfl (Q.extract (.t 0 rfl) rfl) ?_  -- 23:7 outright.go:181
                    refine J.finF rfl rfl ?_
                    refine JT.pick [8, 9] (by kernel_rfl) (.cons (DStep.of rfl ?_) (.cons (DStep.of rfl ?_) .nil))
                    ·
                      refine J.q rfl rfl rfl rfl (Q.extract (.t 1 rfl) rfl) ?_  -- 23:8 outright.go:181
                      refine J.finF rfl rfl ?_
                      refine JT.pick [9] (by kernel_rfl) (.cons (DStep.of rfl ?_) .nil)
                      refine J.q rfl rfl rfl rfl (Q.assign (.t 1 rfl)) ?_  -- 23:9 outright.go:181
                      refine J.finF rfl rfl ?_
                      refine JT.pick [10] (by kernel_rfl) (.cons (DStep.of rfl ?_) .nil)
                      refine J.q rfl rfl rfl rfl (Q.assign (.t 1 rfl)) ?_  -- 23:10 outright.go:181
                      refine J.finF rfl rfl ?_
                      refine JT.end_ ?_
                      refine X.go ?_
                      refine C.keep (.cons 0 rfl (.cons 1 rfl (.cons 11 rfl (.cons 12 rfl (.cons 13 rfl (.cons 14 rfl (.cons 15 rfl (.cons 16 rfl (.cons 17 rfl (.cons 18 rfl .nil)))))))))) ?_
                      refine C.seq ?_
                      refine C.reg ?_
                      refine J.q rfl rfl rfl rfl (Q.assign .c) ?_  -- 24:0 outright.go:182
                      refine J.end_ ?_
                      refine C.seq ?_
                      refine C.seq ?_
                      refine C.reg ?_
                      refine J.q rfl rfl rfl rfl (Q.assign .c) ?_  -- 25:0 outright.go:183
                      refine J.end_ ?_
                      refine C.block ?_
                      obtain ⟨t554, ht555, H518⟩ := bd_some H518
                      refine C.it_2 (fun s r => Value.int .i64 s.1) (fun s r => Value.int .i64 s.2) (fun s r => St w no [rowG 3 1 a534 r532.1.length c535 (r532.1.flatMap enI), rowG 3 1 a366 r364.1.length c367 (r364.1.flatMap enI), rowG 2 1 a15 r13.1.length c16 (r13.1.flatMap enI), rowG 2 1 a9 r7.1.length c10 (r7.1.flatMap enI), bx b1 26 (Cable.cells c ca cc)] [rowO ca 8 Nd.enc c.nodes, rowO qa 1 (enK .u16) q, rowO ka 1 (enK .u8) k]) ((0 : Int), (0 : Int)) () ht555 rfl rfl (fun _ h => h) ?_
                      rintro ⟨v552, v553⟩ ⟨⟩ o556 H558 ho557
                      try dsimp only at H558 ⊢
                      refine C.seq ?_
                      refine C.seq ?_
                      refine C.reg ?_
                      refine J.q rfl rfl rfl rfl (Q.move (.t 0 rfl)) ?_  -- 26:0 outright.go:183
                      refine J.q rfl rfl rfl rfl (Q.move (.t 4 rfl)) ?_  -- 26:1 outright.go:183
                      refine J.q rfl rfl rfl rfl (Q.len Try.underlying33 (.t 0 rfl)) ?_  -- 26:2 outright.go:183
                      refine J.q rfl rfl rfl rfl (Q.lss (.t 2 rfl) (.t 0 rfl)) ?_  -- 26:3 outright.go:183
                      refine J.end_ ?_
                      refine C.keep (.cons 0 rfl (.cons 4 rfl (.cons 5 rfl (.cons 6 rfl (.cons 7 rfl (.cons 8 rfl (.cons 9 rfl (.cons 10 rfl (.cons 11 rfl (.cons 12 rfl (.cons 13 rfl (.cons 14 rfl (.cons 15 rfl .nil))))))))))))) ?_
                      refine C.cond (.t 0 rfl) (fun c559 => ?_) (fun c559 => ?_)
                      ·
                        replace H558 := sel_t c559 H558
                        refine C.skip ?_
                        refine X.go ?_
                        refine C.keep (.cons 1 rfl (.cons 2 rfl (.cons 3 rfl (.cons 4 rfl (.cons 5 rfl (.cons 6 rfl (.cons 7 rfl (.cons 8 rfl (.cons 9 rfl (.cons 10 rfl (.cons 11 rfl (.cons 12 rfl .nil)))))))))))) ?_
                        refine C.seq ?_
                        refine C.block ?_
                        refine C.seq ?_
                        refine C.seq ?_
                        obtain ⟨x560, hx561, hi562, H558⟩ := ix_some H558
                        obtain ⟨x563, hx564, hi565, H558⟩ := ixg_some H558
                        refine C.reg ?_
                        refine J.q rfl rfl rfl rfl (Q.move (.t 3 rfl)) ?_  -- 28:0 outright.go:184
                        refine J.q rfl rfl rfl rfl (Q.move (.t 1 rfl)) ?_  -- 28:1 outright.go:184
                        refine J.q rfl rfl rfl rfl (Q.ixG 0 rfl Try.underlying33 Try.sizeOf3 (.t 1 rfl) (.t 0 rfl) hi562) ?_  -- 28:2 outright.go:184
                        refine J.q rfl rfl rfl rfl (Q.load (.t 0 rfl) Try.isAgg3 (ldGa0 (sz := 1) (enc := enI) 1 0 rfl (by decide) (fun _ => rfl) hx561 (.cons .nil))) ?_  -- 28:3 outright.go:184
                        refine J.q rfl rfl rfl rfl (Q.lss (.t 0 rfl) .c) ?_  -- 28:4 outright.go:184
                        refine J.q rfl rfl rfl rfl (Q.move (.t 0 rfl)) ?_  -- 28:5 outright.go:184
                        refine J.gQ (Gd.one rfl rfl rfl (.t 0 rfl)) rfl rfl rfl (.p 9 rfl .nil) (fun hg => (Q.move (.t 0 rfl))) ?_  -- 28:6 outright.go:184
                        refine J.gQ (Gd.one rfl rfl rfl (.t 1 rfl)) rfl rfl rfl (.p 7 rfl .nil) (fun hg => (Q.move (.t 0 rfl))) ?_  -- 28:7 outright.go:184
                        refine J.gQ (Gd.one rfl rfl rfl (.t 2 rfl)) rfl rfl rfl (.g 1 rfl (.g 0 rfl .nil)) (fun hg => (Q.ixG 0 rfl Try.underlying33 Try.sizeOf3 (.t 0 rfl) (.t 1 rfl) (hi565 hg))) ?_  -- 28:8 outright.go:184
                        refine J.gQ (Gd.one rfl rfl rfl (.t 3 rfl)) rfl rfl rfl (.g 0 rfl .nil) (fun hg => (Q.load (.t 0 rfl) Try.isAgg3 (ldGa0 (sz := 1) (enc := enI) 1 0 rfl (by decide) (fun _ => rfl) (hx564 hg) (.cons .nil)))) ?_  -- 28:9 outright.go:184
                        refine J.gQ (Gd.one rfl rfl rfl (.t 4 rfl)) rfl rfl rfl (.p 19 rfl .nil) (fun hg => (Q.move (.t 0 rfl))) ?_  -- 28:10 outright.go:184
                        refine J.gQ (Gd.one rfl rfl rfl (.t 5 rfl)) rfl rfl rfl (.g 0 rfl .nil) (fun hg => (Q.len Try.underlying32 (.t 0 rfl))) ?_  -- 28:11 outright.go:184
                        refine J.gQ (Gd.one rfl rfl rfl (.t 6 rfl)) rfl rfl rfl (.g 2 rfl (.g 0 rfl .nil)) (fun hg => (Q.geq (.t 0 rfl) (.t 1 rfl))) ?_  -- 28:12 outright.go:184
                        refine J.q rfl rfl rfl rfl (Q.or_ (.t 7 rfl) (.t 0 rfl)) ?_  -- 28:13 outright.go:184
                        refine J.end_ ?_
                        refine C.keep (.cons 0 rfl (.cons 14 rfl (.cons 15 rfl (.cons 16 rfl (.cons 17 rfl (.cons 18 rfl (.cons 19 rfl (.cons 20 rfl (.cons 21 rfl (.cons 22 rfl (.cons 23 rfl (.cons 24 rfl (.cons 25 rfl .nil))))))))))))) ?_
                        refine C.cond (.t 0 rfl) (fun c566 => ?_) (fun c566 => ?_)
                        ·
                          replace H558 := sel_t c566 H558
                          refine C.seq ?_
                          refine C.reg ?_
                          refine J.q rfl rfl rfl rfl (Q.assign .c) ?_  -- 29:0 outright.go:185
                          refine J.end_ ?_
                          refine C.keep (.cons 0 rfl .nil) ?_
                          refine C.ret ?_
                          refine X.thenRet ?_
                          refine X.inRet ?_
                          refine X.thenRet ?_
                          refine X.thenRet ?_
                          obtain rfl := Option.some.inj H558
                          obtain rfl := ho557
                          try dsimp only [thn] at H518
                          refine X.inRet ?_
                          refine X.thenRet ?_
                          refine X.inRet ?_
                          refine X.thenRet ?_
                          refine X.thenRet ?_
                          obtain rfl := Option.some.inj H518
                          obtain rfl := ho517
                          try dsimp only [thn] at H343
                          refine X.inRet ?_
                          refine X.thenRet ?_
                          refine X.inRet ?_
                          refine X.thenRet ?_
                          refine X.thenRet ?_
                          obtain rfl := Option.some.inj H343
                          obtain rfl := ho342
                          try dsimp only [thn] at H
                          refine X.inRet ?_
                          refine X.thenRet ?_
                          obtain rfl := Option.some.inj H
                          refine X.rets (vs := [Value.bool false]) rfl (.t 0 rfl .nil) (fun w' hA => ?_)
                          exact PostV.of hA
                        ·
                          replace H558 := sel_f c566 H558
                          refine C.skip ?_
                          refine X.go ?_
                          refine C.keep (.cons 1 rfl (.cons 2 rfl (.cons 3 rfl (.cons 4 rfl (.cons 5 rfl (.cons 6 rfl (.cons 7 rfl (.cons 8 rfl (.cons 9 rfl (.cons 10 rfl (.cons 11 rfl (.cons 12 rfl .nil)))))))))))) ?_
                          obtain ⟨x570, hx571, hi572, H558⟩ := ix_some H558
                          obtain ⟨x573, hx574, hi575, H558⟩ := ix_some H558
                          obtain ⟨h576, H558⟩ := ck_some H558
                          refine C.reg ?_
                          refine J.q rfl rfl rfl rfl (Q.move (.t 1 rfl)) ?_  -- 30:0 outright.go:187
                          refine J.q rfl rfl rfl rfl (Q.move (.t 10 rfl)) ?_  -- 30:1 outright.go:187
                          refine J.q rfl rfl rfl rfl (Q.move (.t 5 rfl)) ?_  -- 30:2 outright.go:187
                          refine J.q rfl rfl rfl rfl (Q.move (.t 3 rfl)) ?_  -- 30:3 outright.go:187
                          refine J.q rfl rfl rfl rfl (Q.ixG 0 rfl Try.underlying33 Try.sizeOf3 (.t 1 rfl) (.t 0 rfl) hi572) ?_  -- 30:4 outright.go:187
                          refine J.q rfl rfl rfl rfl (Q.load (.t 0 rfl) Try.isAgg3 (ldGa0 (sz := 1) (enc := enI) 1 0 rfl (by decide) (fun _ => rfl) hx571 (.cons .nil))) ?_  -- 30:5 outright.go:187
                          refine J.q rfl rfl rfl rfl (Q.ixG 2 rfl Try.underlying32 Try.sizeOf2 (.t 4 rfl) (.t 0 rfl) hi575) ?_  -- 30:6 outright.go:187
                          refine J.q rfl rfl rfl rfl (Q.load (.t 0 rfl) Try.isAgg2 (ldGa0 (sz := 1) (enc := enI) 1 2 rfl (by decide) (fun _ => rfl) hx574 (.cons .nil))) ?_  -- 30:7 outright.go:187
                          refine J.q rfl rfl rfl rfl (Q.add (.t 7 rfl) (.t 0 rfl) h576) ?_  -- 30:8 outright.go:187
                          refine J.keep (.cons 0 rfl (.cons 1 rfl (.cons 2 rfl (.cons 3 rfl (.cons 4 rfl (.cons 5 rfl (.cons 6 rfl (.cons 7 rfl (.cons 8 rfl (.cons 9 rfl (.cons 11 rfl (.cons 12 rfl (.cons 13 rfl (.cons 14 rfl (.cons 15 rfl (.cons 16 rfl (.cons 17 rfl (.cons 18 rfl (.cons 19 rfl (.cons 20 rfl .nil)))))))))))))))))))) ?_
                          refine J.q rfl rfl rfl rfl (Q.assign (.t 0 rfl)) ?_  -- 30:9 outright.go:187
                          refine J.done ?_
                          refine X.inNormal ?_
                          refine X.go ?_
                          refine C.keep (.cons 0 rfl (.cons 10 rfl (.cons 11 rfl (.cons 12 rfl (.cons 13 rfl (.cons 14 rfl (.cons 15 rfl (.cons 16 rfl (.cons 17 rfl (.cons 18 rfl (.cons 19 rfl (.cons 20 rfl .nil)))))))))))) ?_
                          obtain ⟨h577, H558⟩ := ck_some H558
                          refine C.reg ?_
                          refine J.q rfl rfl rfl rfl (Q.move (.t 1 rfl)) ?_  -- 27:0 outright.go:183
                          refine J.q rfl rfl rfl rfl (Q.add (.t 0 rfl) .c h577) ?_  -- 27:1 outright.go:183
                          refine J.keep (.cons 0 rfl (.cons 1 rfl (.cons 2 rfl (.cons 4 rfl (.cons 5 rfl (.cons 6 rfl (.cons 7 rfl (.cons 8 rfl (.cons 9 rfl (.cons 10 rfl (.cons 11 rfl (.cons 12 rfl (.cons 13 rfl .nil))))))))))))) ?_
                          refine J.q rfl rfl rfl rfl (Q.assign (.t 0 rfl)) ?_  -- 27:2 outright.go:183
                          refine J.done ?_
                          obtain rfl := Option.some.inj H558
                          exact X.nxi ((v552 + (1 : Int)), (v553 + x573)) () ho557 (.cons 0 rfl (.cons 3 rfl (.cons 4 rfl (.cons 5 rfl (.cons 6 rfl (.cons 7 rfl (.cons 8 rfl (.cons 9 rfl (.cons 10 rfl (.cons 11 rfl (.cons 12 rfl (.cons 13 rfl .nil)))))))))))) (fun _ h => h)
                      ·
                        replace H558 := sel_f c559 H558
                        refine C.exit ?_
                        refine X.thenExit ?_
                        obtain rfl := Option.some.inj H558
                        obtain rfl : (Sum.inl (v552, v553)) = t554 := ho557
                        try dsimp only [thn] at H518
                        refine X.thenExit ?_
                        refine X.inHit ?_
                        refine X.go ?_
                        refine C.keep (.cons 2 rfl (.cons 3 rfl (.cons 5 rfl (.cons 6 rfl (.cons 7 rfl (.cons 8 rfl (.cons 9 rfl (.cons 10 rfl (.cons 11 rfl (.cons 12 rfl .nil)))))))))) ?_
                        obtain ⟨x578, hx579, hi580, H518⟩ := ixg_some H518
                        obtain ⟨x581, hx582, hi583, H518⟩ := ixg_some H518
                        refine C.drawS ?_
                        refine JC.q 0 rfl rfl rfl rfl (Q.move (.t 3 rfl)) ?_  -- 31:0 outright.go:189
                        refine JC.q 1 rfl rfl rfl rfl (Q.move (.t 0 rfl)) ?_  -- 31:1 outright.go:189
                        refine JC.gQ 2 rfl (Gd.one rfl rfl rfl (.t 0 rfl)) rfl rfl (.p 3 rfl .nil) (fun hg => (Q.move (.t 0 rfl))) ?_  -- 31:2 outright.go:189
                        refine JC.gQ 3 rfl (Gd.one rfl rfl rfl (.t 1 rfl)) rfl rfl (.g 0 rfl .nil) (fun hg => (Q.eql (.t 0 rfl) .c)) ?_  -- 31:3 outright.go:189
                        refine JC.gQ 4 rfl (Gd.one rfl rfl rfl (.t 2 rfl)) rfl rfl (.g 0 rfl .nil) (fun hg => (Q.move (.t 0 rfl))) ?_  -- 31:4 outright.go:189
                        refine JC.gQ 5 rfl (Gd.two rfl rfl rfl (.t 0 rfl)) rfl rfl (.p 5 rfl .nil) (fun hg => (Q.move (.t 0 rfl))) ?_  -- 31:5 outright.go:189
                        refine JC.gQ 6 rfl (Gd.two rfl rfl rfl (.t 1 rfl)) rfl rfl (.p 15 rfl .nil) (fun hg => (Q.fa0 2 Try.underlying26 rfl Try.sizeOf24 rfl rfl (.t 0 rfl))) ?_  -- 31:6 outright.go:189
                        refine JC.gQ 7 rfl (Gd.two rfl rfl rfl (.t 2 rfl)) rfl rfl (.g 0 rfl .nil) (fun hg => (Q.load (.t 0 rfl) Try.isAgg24 (ldT 1 4 rfl (.skip (.skip (.cons .nil)))))) ?_  -- 31:7 outright.go:189
                        refine JC.gQ 8 rfl (Gd.two rfl rfl rfl (.t 3 rfl)) rfl rfl (.p 13 rfl .nil) (fun hg => (Q.move (.t 0 rfl))) ?_  -- 31:8 outright.go:189
                        refine JC.gQ 9 rfl (Gd.two rfl rfl rfl (.t 4 rfl)) rfl rfl (.p 11 rfl .nil) (fun hg => (Q.move (.t 0 rfl))) ?_  -- 31:9 outright.go:189
                        refine JC.gQ 10 rfl (Gd.two rfl rfl rfl (.t 5 rfl)) rfl rfl (.g 1 rfl (.g 0 rfl .nil)) (fun hg => (Q.ixG 1 rfl Try.underlying33 Try.sizeOf3 (.t 0 rfl) (.t 1 rfl) (hi580 hg))) ?_  -- 31:10 outright.go:189
                        refine JC.gQ 11 rfl (Gd.two rfl rfl rfl (.t 6 rfl)) rfl rfl (.g 0 rfl .nil) (fun hg => (Q.load (.t 0 rfl) Try.isAgg3 (ldGa0 (sz := 1) (enc := enI) 1 1 rfl (by decide) (fun _ => rfl) (hx579 hg) (.cons .nil)))) ?_  -- 31:11 outright.go:189
                        refine JC.gQ 12 rfl (Gd.two rfl rfl rfl (.t 7 rfl)) rfl rfl (.g 4 rfl (.g 0 rfl .nil)) (fun hg => (Q.ixO 0 rfl Try.underlying24 Try.sizeOf40 (.t 0 rfl) (.t 1 rfl) rfl (hi583 hg))) ?_  -- 31:12 outright.go:189
                        refine JC.gQ 13 rfl (Gd.two rfl rfl rfl (.t 8 rfl)) rfl rfl (.g 0 rfl .nil) (fun hg => (Q.fa 3 Try.underlying40 rfl Try.sizeOf2 rfl rfl (.t 0 rfl))) ?_  -- 31:13 outright.go:189
                        refine JC.gQ 14 rfl (Gd.two rfl rfl rfl (.t 9 rfl)) rfl rfl (.g 0 rfl .nil) (fun hg => (Q.load (.t 0 rfl) Try.isAgg2 (ldOa 1 0 rfl (hx582 hg) (.skip (.skip (.skip (.cons .nil))))))) ?_  -- 31:14 outright.go:189
                        refine JC.gQ 15 rfl (Gd.two rfl rfl rfl (.t 10 rfl)) rfl rfl (.g 9 rfl (.g 0 rfl .nil)) (fun hg => (Q.eql (.t 0 rfl) (.t 1 rfl))) ?_  -- 31:15 outright.go:189
                        refine JC.gQ 16 rfl (Gd.one rfl rfl rfl (.t 14 rfl)) rfl rfl (.g 11 rfl (.n 0 rfl .nil)) (fun hg => (Q.and_ (.t 0 rfl) (.t 1 rfl))) ?_  -- 31:16 outright.go:189
                        refine JC.q 17 rfl rfl rfl rfl (Q.or_ (.t 15 rfl) (.t 0 rfl)) ?_  -- 31:17 outright.go:189
                        refine JC.tail [0, 1, 3, 7, 15, 31, 31, 95, 31, 31, 799, 1823, 4063, 8159, 16351, 32767, 65535, 131071, 262143] 1 mixed (by kernel_rfl) (by kernel_rfl) (fun _ h => h) ?_
                        refine JT.pick [18] (by kernel_rfl) (.cons (DStep.of rfl ?_) .nil)
                        refine J.keep (.cons 0 rfl (.cons 1 rfl (.cons 2 rfl (.cons 3 rfl (.cons 4 rfl (.cons 5 rfl (.cons 6 rfl (.cons 7 rfl (.cons 8 rfl (.cons 9 rfl (.cons 10 rfl (.cons 11 rfl (.cons 12 rfl (.cons 13 rfl (.cons 14 rfl (.cons 15 rfl (.cons 16 rfl (.cons 17 rfl (.cons 18 rfl (.cons 19 rfl (.cons 20 rfl (.cons 22 rfl (.cons 23 rfl (.cons 24 rfl (.cons 25 rfl (.cons 26 rfl (.cons 27 rfl .nil))))))))))))))))))))))))))) ?_
                        refine J.q rfl rfl rfl rfl (Q.assign (.t 0 rfl)) ?_  -- 31:18 outright.go:189
                        refine J.finF rfl rfl ?_
                        refine JT.end_ ?_
                        refine X.inNormal ?_
                        refine X.go ?_
                        refine C.keep (.cons 0 rfl (.cons 21 rfl (.cons 22 rfl (.cons 23 rfl (.cons 24 rfl (.cons 25 rfl (.cons 26 rfl (.cons 27 rfl .nil)))))))) ?_
                        obtain ⟨h584, H518⟩ := ck_some H518
                        refine C.reg ?_
                        refine J.q rfl rfl rfl rfl (Q.move (.t 1 rfl)) ?_  -- 20:0 outright.go:177
                        refine J.q rfl rfl rfl rfl (Q.add (.t 0 rfl) .c h584) ?_  -- 20:1 outright.go:177
                        refine J.keep (.cons 0 rfl (.cons 1 rfl (.cons 2 rfl (.cons 4 rfl (.cons 5 rfl (.cons 6 rfl (.cons 7 rfl (.cons 8 rfl (.cons 9 rfl .nil))))))))) ?_
                        refine J.q rfl rfl rfl rfl (Q.assign (.t 0 rfl)) ?_  -- 20:2 outright.go:177
                        refine J.done ?_
                        obtain rfl := Option.some.inj H518
                        exact X.nxi ((v512 + (1 : Int)), (v513 || ((decide (r532.2 = (0 : Int))) && (decide (v553 = x581.limit))))) () ho517 (.cons 0 rfl (.cons 3 rfl (.cons 4 rfl (.cons 5 rfl (.cons 6 rfl (.cons 7 rfl (.cons 8 rfl (.cons 9 rfl .nil)))))))) (fun _ h => h.to (.cons (.there .here) (.cons (.there .here) (.cons (.there .here) (.cons (.there .here) .drop)))))
                    ·
                      refine J.q rfl rfl rfl rfl (Q.assign (.t 0 rfl)) ?_  -- 23:9 outright.go:181
                      refine J.finF rfl rfl ?_
                      refine JT.pick [8] (by kernel_rfl) (.cons (DStep.of rfl ?_) .nil)
                      refine J.q rfl rfl rfl rfl (Q.extract (.t 2 rfl) rfl) ?_  -- 23:8 outright.go:181
                      refine J.finF rfl rfl ?_
                      refine JT.pick [10] (by kernel_rfl) (.cons (DStep.of rfl ?_) .nil)
                      refine J.q rfl rfl rfl rfl (Q.assign (.t 0 rfl)) ?_  -- 23:10 outright.go:181
                      refine J.finF rfl rfl ?_
                      refine JT.end_ ?_
                      refine X.go ?_
                      refine C.keep (.cons 0 rfl (.cons 2 rfl (.cons 11 rfl (.cons 12 rfl (.cons 13 rfl (.cons 14 rfl (.cons 15 rfl (.cons 16 rfl (.cons 17 rfl (.cons 18 rfl .nil)))))))))) ?_
                      refine C.seq ?_
                      refine C.reg ?_
                      refine J.q rfl rfl rfl rfl (Q.assign .c) ?_  -- 24:0 outright.go:182
                      refine J.end_ ?_
                      refine C.seq ?_
                      refine C.seq ?_
                      refine C.reg ?_
                      refine J.q rfl rfl rfl rfl (Q.assign .c) ?_  -- 25:0 outright.go:183
                      refine J.end_ ?_
                      refine C.block ?_
                      obtain ⟨t603, ht604, H518⟩ := bd_some H518
                      refine C.it_2 (fun s r => Value.int .i64 s.1) (fun s r => Value.int .i64 s.2) (fun s r => St w no [rowG 3 1 a534 r532.1.length c535 (r532.1.flatMap enI), rowG 3 1 a366 r364.1.length c367 (r364.1.flatMap enI), rowG 2 1 a15 r13.1.length c16 (r13.1.flatMap enI), rowG 2 1 a9 r7.1.length c10 (r7.1.flatMap enI), bx b1 26 (Cable.cells c ca cc)] [rowO ca 8 Nd.enc c.nodes, rowO qa 1 (enK .u16) q, rowO ka 1 (enK .u8) k]) ((0 : Int), (0 : Int)) () ht604 rfl rfl (fun _ h => h) ?_
                      rintro ⟨v601, v602⟩ ⟨⟩ o605 H607 ho606
                      try dsimp only at H607 ⊢
                      refine C.seq ?_
                      refine C.seq ?_
                      refine C.reg ?_
                      refine J.q rfl rfl rfl rfl (Q.move (.t 0 rfl)) ?_  -- 26:0 outright.go:183
                      refine J.q rfl rfl rfl rfl (Q.move (.t 4 rfl)) ?_  -- 26:1 outright.go:183
                      refine J.q rfl rfl rfl rfl (Q.len Try.underlying33 (.t 0 rfl)) ?_  -- 26:2 outright.go:183
                      refine J.q rfl rfl rfl rfl (Q.lss (.t 2 rfl) (.t 0 rfl)) ?_  -- 26:3 outright.go:183
                      refine J.end_ ?_
                      refine C.keep (.cons 0 rfl (.cons 4 rfl (.cons 5 rfl (.cons 6 rfl (.cons 7 rfl (.cons 8 rfl (.cons 9 rfl (.cons 10 rfl (.cons 11 rfl (.cons 12 rfl (.cons 13 rfl (.cons 14 rfl (.cons 15 rfl .nil))))))))))))) ?_
                      refine C.cond (.t 0 rfl) (fun c608 => ?_) (fun c608 => ?_)
                      ·
                        replace H607 := sel_t c608 H607
                        refine C.skip ?_
                        refine X.go ?_
                        refine C.keep (.cons 1 rfl (.cons 2 rfl (.cons 3 rfl (.cons 4 rfl (.cons 5 rfl (.cons 6 rfl (.cons 7 rfl (.cons 8 rfl (.cons 9 rfl (.cons 10 rfl (.cons 11 rfl (.cons 12 rfl .nil)))))))))))) ?_
                        refine C.seq ?_
                        refine C.block ?_
                        refine C.seq ?_
                        refine C.seq ?_
                        obtain ⟨x609, hx610, hi611, H607⟩ := ix_some H607
                        obtain ⟨x612, hx613, hi614, H607⟩ := ixg_some H607
                        refine C.reg ?_
                        refine J.q rfl rfl rfl rfl (Q.move (.t 3 rfl)) ?_  -- 28:0 outright.go:184
                        refine J.q rfl rfl rfl rfl (Q.move (.t 1 rfl)) ?_  -- 28:1 outright.go:184
                        refine J.q rfl rfl rfl rfl (Q.ixG 0 rfl Try.underlying33 Try.sizeOf3 (.t 1 rfl) (.t 0 rfl) hi611) ?_  -- 28:2 outright.go:184
                        refine J.q rfl rfl rfl rfl (Q.load (.t 0 rfl) Try.isAgg3 (ldGa0 (sz := 1) (enc := enI) 1 0 rfl (by decide) (fun _ => rfl) hx610 (.cons .nil))) ?_  -- 28:3 outright.go:184
                        refine J.q rfl rfl rfl rfl (Q.lss (.t 0 rfl) .c) ?_  -- 28:4 outright.go:184
                        refine J.q rfl rfl rfl rfl (Q.move (.t 0 rfl)) ?_  -- 28:5 outright.go:184
                        refine J.gQ (Gd.one rfl rfl rfl (.t 0 rfl)) rfl rfl rfl (.p 9 rfl .nil) (fun hg => (Q.move (.t 0 rfl))) ?_  -- 28:6 outright.go:184
                        refine J.gQ (Gd.one rfl rfl rfl (.t 1 rfl)) rfl rfl rfl (.p 7 rfl .nil) (fun hg => (Q.move (.t 0 rfl))) ?_  -- 28:7 outright.go:184
                        refine J.gQ (Gd.one rfl rfl rfl (.t 2 rfl)) rfl rfl rfl (.g 1 rfl (.g 0 rfl .nil)) (fun hg => (Q.ixG 0 rfl Try.underlying33 Try.sizeOf3 (.t 0 rfl) (.t 1 rfl) (hi614 hg))) ?_  -- 28:8 outright.go:184
                        refine J.gQ (Gd.one rfl rfl rfl (.t 3 rfl)) rfl rfl rfl (.g 0 rfl .nil) (fun hg => (Q.load (.t 0 rfl) Try.isAgg3 (ldGa0 (sz := 1) (enc := enI) 1 0 rfl (by decide) (fun _ => rfl) (hx613 hg) (.cons .nil)))) ?_  -- 28:9 outright.go:184
                        refine J.gQ (Gd.one rfl rfl rfl (.t 4 rfl)) rfl rfl rfl (.p 19 rfl .nil) (fun hg => (Q.move (.t 0 rfl))) ?_  -- 28:10 outright.go:184
                        refine J.gQ (Gd.one rfl rfl rfl (.t 5 rfl)) rfl rfl rfl (.g 0 rfl .nil) (fun hg => (Q.len Try.underlying32 (.t 0 rfl))) ?_  -- 28:11 outright.go:184
                        refine J.gQ (Gd.one rfl rfl rfl (.t 6 rfl)) rfl rfl rfl (.g 2 rfl (.g 0 rfl .nil)) (fun hg => (Q.geq (.t 0 rfl) (.t 1 rfl))) ?_  -- 28:12 outright.go:184
                        refine J.q rfl rfl rfl rfl (Q.or_ (.t 7 rfl) (.t 0 rfl)) ?_  -- 28:13 outright.go:184
                        refine J.end_ ?_
                        refine C.keep (.cons 0 rfl (.cons 14 rfl (.cons 15 rfl (.cons 16 rfl (.cons 17 rfl (.cons 18 rfl (.cons 19 rfl (.cons 20 rfl (.cons 21 rfl (.cons 22 rfl (.cons 23 rfl (.cons 24 rfl (.cons 25 rfl .nil))))))))))))) ?_
                        refine C.cond (.t 0 rfl) (fun c615 => ?_) (fun c615 => ?_)
                        ·
                          replace H607 := sel_t c615 H607
                          refine C.seq ?_
                          refine C.reg ?_
                          refine J.q rfl rfl rfl rfl (Q.assign .c) ?_  -- 29:0 outright.go:185
                          refine J.end_ ?_
                          refine C.keep (.cons 0 rfl .nil) ?_
                          refine C.ret ?_
                          refine X.thenRet ?_
                          refine X.inRet ?_
                          refine X.thenRet ?_
                          refine X.thenRet ?_
                          obtain rfl := Option.some.inj H607
                          obtain rfl := ho606
                          try dsimp only [thn] at H518
                          refine X.inRet ?_
                          refine X.thenRet ?_
                          refine X.inRet ?_
                          refine X.thenRet ?_
                          refine X.thenRet ?_
                          obtain rfl := Option.some.inj H518
                          obtain rfl := ho517
                          try dsimp only [thn] at H343
                          refine X.inRet ?_
                          refine X.thenRet ?_
                          refine X.inRet ?_
                          refine X.thenRet ?_
                          refine X.thenRet ?_
                          obtain rfl := Option.some.inj H343
                          obtain rfl := ho342
                          try dsimp only [thn] at H
                          refine X.inRet ?_
                          refine X.thenRet ?_
                          obtain rfl := Option.some.inj H
                          refine X.rets (vs := [Value.bool false]) rfl (.t 0 rfl .nil) (fun w' hA => ?_)
                          exact PostV.of hA
                        ·
                          replace H607 := sel_f c615 H607
                          refine C.skip ?_
                          refine X.go ?_
                          refine C.keep (.cons 1 rfl (.cons 2 rfl (.cons 3 rfl (.cons 4 rfl (.cons 5 rfl (.cons 6 rfl (.cons 7 rfl (.cons 8 rfl (.cons 9 rfl (.cons 10 rfl (.cons 11 rfl (.cons 12 rfl .nil)))))))))))) ?_
                          obtain ⟨x619, hx620, hi621, H607⟩ := ix_some H607
                          obtain ⟨x622, hx623, hi624, H607⟩ := ix_some H607
                          obtain ⟨h625, H607⟩ := ck_some H607
                          refine C.reg ?_
                          refine J.q rfl rfl rfl rfl (Q.move (.t 1 rfl)) ?_  -- 30:0 outright.go:187
                          refine J.q rfl rfl rfl rfl (Q.move (.t 10 rfl)) ?_  -- 30:1 outright.go:187
                          refine J.q rfl rfl rfl rfl (Q.move (.t 5 rfl)) ?_  -- 30:2 outright.go:187
                          refine J.q rfl rfl rfl rfl (Q.move (.t 3 rfl)) ?_  -- 30:3 outright.go:187
                          refine J.q rfl rfl rfl rfl (Q.ixG 0 rfl Try.underlying33 Try.sizeOf3 (.t 1 rfl) (.t 0 rfl) hi621) ?_  -- 30:4 outright.go:187
                          refine J.q rfl rfl rfl rfl (Q.load (.t 0 rfl) Try.isAgg3 (ldGa0 (sz := 1) (enc := enI) 1 0 rfl (by decide) (fun _ => rfl) hx620 (.cons .nil))) ?_  -- 30:5 outright.go:187
                          refine J.q rfl rfl rfl rfl (Q.ixG 2 rfl Try.underlying32 Try.sizeOf2 (.t 4 rfl) (.t 0 rfl) hi624) ?_  -- 30:6 outright.go:187
                          refine J.q rfl rfl rfl rfl (Q.load (.t 0 rfl) Try.isAgg2 (ldGa0 (sz := 1) (enc := enI) 1 2 rfl (by decide) (fun _ => rfl) hx623 (.cons .nil))) ?_  -- 30:7 outright.go:187
                          refine J.q rfl rfl rfl rfl (Q.add (.t 7 rfl) (.t 0 rfl) h625) ?_  -- 30:8 outright.go:187
                          refine J.keep (.cons 0 rfl (.cons 1 rfl (.cons 2 rfl (.cons 3 rfl (.cons 4 rfl (.cons 5 rfl (.cons 6 rfl (.cons 7 rfl (.cons 8 rfl (.cons 9 rfl (.cons 11 rfl (.cons 12 rfl (.cons 13 rfl (.cons 14 rfl (.cons 15 rfl (.cons 16 rfl (.cons 17 rfl (.cons 18 rfl (.cons 19 rfl (.cons 20 rfl .nil)))))))))))))))))))) ?_
                          refine J.q rfl rfl rfl rfl (Q.assign (.t 0 rfl)) ?_  -- 30:9 outright.go:187
                          refine J.done ?_
                          refine X.inNormal ?_
                          refine X.go ?_
                          refine C.keep (.cons 0 rfl (.cons 10 rfl (.cons 11 rfl (.cons 12 rfl (.cons 13 rfl (.cons 14 rfl (.cons 15 rfl (.cons 16 rfl (.cons 17 rfl (.cons 18 rfl (.cons 19 rfl (.cons 20 rfl .nil)))))))))))) ?_
                          obtain ⟨h626, H607⟩ := ck_some H607
                          refine C.reg ?_
                          refine J.q rfl rfl rfl rfl (Q.move (.t 1 rfl)) ?_  -- 27:0 outright.go:183
                          refine J.q rfl rfl rfl rfl (Q.add (.t 0 rfl) .c h626) ?_  -- 27:1 outright.go:183
                          refine J.keep (.cons 0 rfl (.cons 1 rfl (.cons 2 rfl (.cons 4 rfl (.cons 5 rfl (.cons 6 rfl (.cons 7 rfl (.cons 8 rfl (.cons 9 rfl (.cons 10 rfl (.cons 11 rfl (.cons 12 rfl (.cons 13 rfl .nil))))))))))))) ?_
                          refine J.q rfl rfl rfl rfl (Q.assign (.t 0 rfl)) ?_  -- 27:2 outright.go:183
                          refine J.done ?_
                          obtain rfl := Option.some.inj H607
                          exact X.nxi ((v601 + (1 : Int)), (v602 + x622)) () ho606 (.cons 0 rfl (.cons 3 rfl (.cons 4 rfl (.cons 5 rfl (.cons 6 rfl (.cons 7 rfl (.cons 8 rfl (.cons 9 rfl (.cons 10 rfl (.cons 11 rfl (.cons 12 rfl (.cons 13 rfl .nil)))))))))))) (fun _ h => h)
                      ·
                        replace H607 := sel_f c608 H607
                        refine C.exit ?_
                        refine X.thenExit ?_
                        obtain rfl := Option.some.inj H607
                        obtain rfl : (Sum.inl (v601, v602)) = t603 := ho606
                        try dsimp only [thn] at H518
                        refine X.thenExit ?_
                        refine X.inHit ?_
                        refine X.go ?_
                        refine C.keep (.cons 2 rfl (.cons 3 rfl (.cons 5 rfl (.cons 6 rfl (.cons 7 rfl (.cons 8 rfl (.cons 9 rfl (.cons 10 rfl (.cons 11 rfl (.cons 12 rfl .nil)))))))))) ?_
                        obtain ⟨x627, hx628, hi629, H518⟩ := ixg_some H518
                        obtain ⟨x630, hx631, hi632, H518⟩ := ixg_some H518
                        refine C.drawS ?_
                        refine JC.q 0 rfl rfl rfl rfl (Q.move (.t 3 rfl)) ?_  -- 31:0 outright.go:189
                        refine JC.q 1 rfl rfl rfl rfl (Q.move (.t 0 rfl)) ?_  -- 31:1 outright.go:189
                        refine JC.gQ 2 rfl (Gd.one rfl rfl rfl (.t 0 rfl)) rfl rfl (.p 3 rfl .nil) (fun hg => (Q.move (.t 0 rfl))) ?_  -- 31:2 outright.go:189
                        refine JC.gQ 3 rfl (Gd.one rfl rfl rfl (.t 1 rfl)) rfl rfl (.g 0 rfl .nil) (fun hg => (Q.eql (.t 0 rfl) .c)) ?_  -- 31:3 outright.go:189
                        refine JC.gQ 4 rfl (Gd.one rfl rfl rfl (.t 2 rfl)) rfl rfl (.g 0 rfl .nil) (fun hg => (Q.move (.t 0 rfl))) ?_  -- 31:4 outright.go:189
                        refine JC.gQ 5 rfl (Gd.two rfl rfl rfl (.t 0 rfl)) rfl rfl (.p 5 rfl .nil) (fun hg => (Q.move (.t 0 rfl))) ?_  -- 31:5 outright.go:189
                        refine JC.gQ 6 rfl (Gd.two rfl rfl rfl (.t 1 rfl)) rfl rfl (.p 15 rfl .nil) (fun hg => (Q.fa0 2 Try.underlying26 rfl Try.sizeOf24 rfl rfl (.t 0 rfl))) ?_  -- 31:6 outright.go:189
                        refine JC.gQ 7 rfl (Gd.two rfl rfl rfl (.t 2 rfl)) rfl rfl (.g 0 rfl .nil) (fun hg => (Q.load (.t 0 rfl) Try.isAgg24 (ldT 1 4 rfl (.skip (.skip (.cons .nil)))))) ?_  -- 31:7 outright.go:189
                        refine JC.gQ 8 rfl (Gd.two rfl rfl rfl (.t 3 rfl)) rfl rfl (.p 13 rfl .nil) (fun hg => (Q.move (.t 0 rfl))) ?_  -- 31:8 outright.go:189
                        refine JC.gQ 9 rfl (Gd.two rfl rfl rfl (.t 4 rfl)) rfl rfl (.p 11 rfl .nil) (fun hg => (Q.move (.t 0 rfl))) ?_  -- 31:9 outright.go:189
                        refine JC.gQ 10 rfl (Gd.two rfl rfl rfl (.t 5 rfl)) rfl rfl (.g 1 rfl (.g 0 rfl .nil)) (fun hg => (Q.ixG 1 rfl Try.underlying33 Try.sizeOf3 (.t 0 rfl) (.t 1 rfl) (hi629 hg))) ?_  -- 31:10 outright.go:189
                        refine JC.gQ 11 rfl (Gd.two rfl rfl rfl (.t 6 rfl)) rfl rfl (.g 0 rfl .nil) (fun hg => (Q.load (.t 0 rfl) Try.isAgg3 (ldGa0 (sz := 1) (enc := enI) 1 1 rfl (by decide) (fun _ => rfl) (hx628 hg) (.cons .nil)))) ?_  -- 31:11 outright.go:189
                        refine JC.gQ 12 rfl (Gd.two rfl rfl rfl (.t 7 rfl)) rfl rfl (.g 4 rfl (.g 0 rfl .nil)) (fun hg => (Q.ixO 0 rfl Try.underlying24 Try.sizeOf40 (.t 0 rfl) (.t 1 rfl) rfl (hi632 hg))) ?_  -- 31:12 outright.go:189
                        refine JC.gQ 13 rfl (Gd.two rfl rfl rfl (.t 8 rfl)) rfl rfl (.g 0 rfl .nil) (fun hg => (Q.fa 3 Try.underlying40 rfl Try.sizeOf2 rfl rfl (.t 0 rfl))) ?_  -- 31:13 outright.go:189
                        refine JC.gQ 14 rfl (Gd.two rfl rfl rfl (.t 9 rfl)) rfl rfl (.g 0 rfl .nil) (fun hg => (Q.load (.t 0 rfl) Try.isAgg2 (ldOa 1 0 rfl (hx631 hg) (.skip (.skip (.skip (.cons .nil))))))) ?_  -- 31:14 outright.go:189
                        refine JC.gQ 15 rfl (Gd.two rfl rfl rfl (.t 10 rfl)) rfl rfl (.g 9 rfl (.g 0 rfl .nil)) (fun hg => (Q.eql (.t 0 rfl) (.t 1 rfl))) ?_  -- 31:15 outright.go:189
                        refine JC.gQ 16 rfl (Gd.one rfl rfl rfl (.t 14 rfl)) rfl rfl (.g 11 rfl (.n 0 rfl .nil)) (fun hg => (Q.and_ (.t 0 rfl) (.t 1 rfl))) ?_  -- 31:16 outright.go:189
                        refine JC.q 17 rfl rfl rfl rfl (Q.or_ (.t 15 rfl) (.t 0 rfl)) ?_  -- 31:17 outright.go:189
                        refine JC.tail [0, 1, 3, 7, 15, 31, 31, 95, 31, 31, 799, 1823, 4063, 8159, 16351, 32767, 65535, 131071, 262143] 1 mixed (by kernel_rfl) (by kernel_rfl) (fun _ h => h) ?_
                        refine JT.pick [18] (by kernel_rfl) (.cons (DStep.of rfl ?_) .nil)
                        refine J.keep (.cons 0 rfl (.cons 1 rfl (.cons 2 rfl (.cons 3 rfl (.cons 4 rfl (.cons 5 rfl (.cons 6 rfl (.cons 7 rfl (.cons 8 rfl (.cons 9 rfl (.cons 10 rfl (.cons 11 rfl (.cons 12 rfl (.cons 13 rfl (.cons 14 rfl (.cons 15 rfl (.cons 16 rfl (.cons 17 rfl (.cons 18 rfl (.cons 19 rfl (.cons 20 rfl (.cons 22 rfl (.cons 23 rfl (.cons 24 rfl (.cons 25 rfl (.cons 26 rfl (.cons 27 rfl .nil))))))))))))))))))))))))))) ?_
                        refine J.q rfl rfl rfl rfl (Q.assign (.t 0 rfl)) ?_  -- 31:18 outright.go:189
                        refine J.finF rfl rfl ?_
                        refine JT.end_ ?_
                        refine X.inNormal ?_
                        refine X.go ?_
                        refine C.keep (.cons 0 rfl (.cons 21 rfl (.cons 22 rfl (.cons 23 rfl (.cons 24 rfl (.cons 25 rfl (.cons 26 rfl (.cons 27 rfl .nil)))))))) ?_
                        obtain ⟨h633, H518⟩ := ck_some H518
                        refine C.reg ?_
                        refine J.q rfl rfl rfl rfl (Q.move (.t 1 rfl)) ?_  -- 20:0 outright.go:177
                        refine J.q rfl rfl rfl rfl (Q.add (.t 0 rfl) .c h633) ?_  -- 20:1 outright.go:177
                        refine J.keep (.cons 0 rfl (.cons 1 rfl (.cons 2 rfl (.cons 4 rfl (.cons 5 rfl (.cons 6 rfl (.cons 7 rfl (.cons 8 rfl (.cons 9 rfl .nil))))))))) ?_
                        refine J.q rfl rfl rfl rfl (Q.assign (.t 0 rfl)) ?_  -- 20:2 outright.go:177
                        refine J.done ?_
                        obtain rfl := Option.some.inj H518
                        exact X.nxi ((v512 + (1 : Int)), (v513 || ((decide (r532.2 = (0 : Int))) && (decide (v602 = x630.limit))))) () ho517 (.cons 0 rfl (.cons 3 rfl (.cons 4 rfl (.cons 5 rfl (.cons 6 rfl (.cons 7 rfl (.cons 8 rfl (.cons 9 rfl .nil)))))))) (fun _ h => h.to (.cons (.there .here) (.cons (.there .here) (.cons (.there .here) (.cons (.there .here) .drop)))))
                  ·
                    refine J.q rfl rfl rfl rfl (Q.extract (.t 0 rfl) rfl) ?_  -- 23:8 outright.go:181
                    refine J.finF rfl rfl ?_
                    refine JT.pick [7] (by kernel_rfl) (.cons (DStep.of rfl ?_) .nil)
                    refine J.q rfl rfl rfl rfl (Q.extract (.t 1 rfl) rfl) ?_  -- 23:7 outright.go:181
                    refine J.finF rfl rfl ?_
                    refine JT.pick [9] (by kernel_rfl) (.cons (DStep.of rfl ?_) .nil)
                    refine J.q rfl rfl rfl rfl (Q.assign (.t 0 rfl)) ?_  -- 23:9 outright.go:181
                    refine J.finF rfl rfl ?_
                    refine JT.pick [10] (by kernel_rfl) (.cons (DStep.of rfl ?_) .nil)
                    refine J.q rfl rfl rfl rfl (Q.assign (.t 2 rfl)) ?_  -- 23:10 outright.go:181
                    refine J.finF rfl rfl ?_
                    refine JT.end_ ?_
                    refine X.go ?_
                    refine C.keep (.cons 0 rfl (.cons 1 rfl (.cons 11 rfl (.cons 12 rfl (.cons 13 rfl (.cons 14 rfl (.cons 15 rfl (.cons 16 rfl (.cons 17 rfl (.cons 18 rfl .nil)))))))))) ?_
                    refine C.seq ?_
                    refine C.reg ?_
                    refine J.q rfl rfl rfl rfl (Q.assign .c) ?_  -- 24:0 outright.go:182
                    refine J.end_ ?_
                    refine C.seq ?_
                    refine C.seq ?_
                    refine C.reg ?_
                    refine J.q rfl rfl rfl rfl (Q.assign .c) ?_  -- 25:0 outright.go:183
                    refine J.end_ ?_
                    refine C.block ?_
                    obtain ⟨t652, ht653, H518⟩ := bd_some H518
                    refine C.it_2 (fun s r => Value.int .i64 s.1) (fun s r => Value.int .i64 s.2) (fun s r => St w no [rowG 3 1 a534 r532.1.length c535 (r532.1.flatMap enI), rowG 3 1 a366 r364.1.length c367 (r364.1.flatMap enI), rowG 2 1 a15 r13.1.length c16 (r13.1.flatMap enI), rowG 2 1 a9 r7.1.length c10 (r7.1.flatMap enI), bx b1 26 (Cable.cells c ca cc)] [rowO ca 8 Nd.enc c.nodes, rowO qa 1 (enK .u16) q, rowO ka 1 (enK .u8) k]) ((0 : Int), (0 : Int)) () ht653 rfl rfl (fun _ h => h) ?_
                    rintro ⟨v650, v651⟩ ⟨⟩ o654 H656 ho655
                    try dsimp only at H656 ⊢
                    refine C.seq ?_
                    refine C.seq ?_
                    refine C.reg ?_
                    refine J.q rfl rfl rfl rfl (Q.move (.t 0 rfl)) ?_  -- 26:0 outright.go:183
                    refine J.q rfl rfl rfl rfl (Q.move (.t 4 rfl)) ?_  -- 26:1 outright.go:183
                    refine J.q rfl rfl rfl rfl (Q.len Try.underlying33 (.t 0 rfl)) ?_  -- 26:2 outright.go:183
                    refine J.q rfl rfl rfl rfl (Q.lss (.t 2 rfl) (.t 0 rfl)) ?_  -- 26:3 outright.go:183
                    refine J.end_ ?_
                    refine C.keep (.cons 0 rfl (.cons 4 rfl (.cons 5 rfl (.cons 6 rfl (.cons 7 rfl (.cons 8 rfl (.cons 9 rfl (.cons 10 rfl (.cons 11 rfl (.cons 12 rfl (.cons 13 rfl (.cons 14 rfl (.cons 15 rfl .nil))))))))))))) ?_
                    refine C.cond (.t 0 rfl) (fun c657 => ?_) (fun c657 => ?_)
                    ·
                      replace H656 := sel_t c657 H656
                      refine C.skip ?_
                      refine X.go ?_
                      refine C.keep (.cons 1 rfl (.cons 2 rfl (.cons 3 rfl (.cons 4 rfl (.cons 5 rfl (.cons 6 rfl (.cons 7 rfl (.cons 8 rfl (.cons 9 rfl (.cons 10 rfl (.cons 11 rfl (.cons 12 rfl .nil)))))))))))) ?_
                      refine C.seq ?_
                      refine C.block ?_
                      refine C.seq ?_
                      refine C.seq ?_
                      obtain ⟨x658, hx659, hi660, H656⟩ := ix_some H656
                      obtain ⟨x661, hx662, hi663, H656⟩ := ixg_some H656
                      refine C.reg ?_
                      refine J.q rfl rfl rfl rfl (Q.move (.t 3 rfl)) ?_  -- 28:0 outright.go:184
                      refine J.q rfl rfl rfl rfl (Q.move (.t 1 rfl)) ?_  -- 28:1 outright.go:184
                      refine J.q rfl rfl rfl rfl (Q.ixG 0 rfl Try.underlying33 Try.sizeOf3 (.t 1 rfl) (.t 0 rfl) hi660) ?_  -- 28:2 outright.go:184
                      refine J.q rfl rfl rfl rfl (Q.load (.t 0 rfl) Try.isAgg3 (ldGa0 (sz := 1) (enc := enI) 1 0 rfl (by decide) (fun _ => rfl) hx659 (.cons .nil))) ?_  -- 28:3 outright.go:184
                      refine J.q rfl rfl rfl rfl (Q.lss (.t 0 rfl) .c) ?_  -- 28:4 outright.go:184
                      refine J.q rfl rfl rfl rfl (Q.move (.t 0 rfl)) ?_  -- 28:5 outright.go:184
                      refine J.gQ (Gd.one rfl rfl rfl (.t 0 rfl)) rfl rfl rfl (.p 9 rfl .nil) (fun hg => (Q.move (.t 0 rfl))) ?_  -- 28:6 outright.go:184
                      refine J.gQ (Gd.one rfl rfl rfl (.t 1 rfl)) rfl rfl rfl (.p 7 rfl .nil) (fun hg => (Q.move (.t 0 rfl))) ?_  -- 28:7 outright.go:184
                      refine J.gQ (Gd.one rfl rfl rfl (.t 2 rfl)) rfl rfl rfl (.g 1 rfl (.g 0 rfl .nil)) (fun hg => (Q.ixG 0 rfl Try.underlying33 Try.sizeOf3 (.t 0 rfl) (.t 1 rfl) (hi663 hg))) ?_  -- 28:8 outright.go:184
                      refine J.gQ (Gd.one rfl rfl rfl (.t 3 rfl)) rfl rfl rfl (.g 0 rfl .nil) (fun hg => (Q.load (.t 0 rfl) Try.isAgg3 (ldGa0 (sz := 1) (enc := enI) 1 0 rfl (by decide) (fun _ => rfl) (hx662 hg) (.cons .nil)))) ?_  -- 28:9 outright.go:184
                      refine J.gQ (Gd.one rfl rfl rfl (.t 4 rfl)) rfl rfl rfl (.p 19 rfl .nil) (fun hg => (Q.move (.t 0 rfl))) ?_  -- 28:10 outright.go:184
                      refine J.gQ (Gd.one rfl rfl rfl (.t 5 rfl)) rfl rfl rfl (.g 0 rfl .nil) (fun hg => (Q.len Try.underlying32 (.t 0 rfl))) ?_  -- 28:11 outright.go:184
                      refine J.gQ (Gd.one rfl rfl rfl (.t 6 rfl)) rfl rfl rfl (.g 2 rfl (.g 0 rfl .nil)) (fun hg => (Q.geq (.t 0 rfl) (.t 1 rfl))) ?_  -- 28:12 outright.go:184
                      refine J.q rfl rfl rfl rfl (Q.or_ (.t 7 rfl) (.t 0 rfl)) ?_  -- 28:13 outright.go:184
                      refine J.end_ ?_
                      refine C.keep (.cons 0 rfl (.cons 14 rfl (.cons 15 rfl (.cons 16 rfl (.cons 17 rfl (.cons 18 rfl (.cons 19 rfl (.cons 20 rfl (.cons 21 rfl (.cons 22 rfl (.cons 23 rfl (.cons 24 rfl (.cons 25 rfl .nil))))))))))))) ?_
                      refine C.cond (.t 0 rfl) (fun c664 => ?_) (fun c664 => ?_)
                      ·
                        replace H656 := sel_t c664 H656
                        refine C.seq ?_
                        refine C.reg ?_
                        refine J.q rfl rfl rfl rfl (Q.assign .c) ?_  -- 29:0 outright.go:185
                        refine J.end_ ?_
                        refine C.keep (.cons 0 rfl .nil) ?_
                        refine C.ret ?_
                        refine X.thenRet ?_
                        refine X.inRet ?_
                        refine X.thenRet ?_
                        refine X.thenRet ?_
                        obtain rfl := Option.some.inj H656
                        obtain rfl := ho655
                        try dsimp only [thn] at H518
                        refine X.inRet ?_
                        refine X.thenRet ?_
                        refine X.inRet ?_
                        refine X.thenRet ?_
                        refine X.thenRet ?_
                        obtain rfl := Option.some.inj H518
                        obtain rfl := ho517
                        try dsimp only [thn] at H343
                        refine X.inRet ?_
                        refine X.thenRet ?_
                        refine X.inRet ?_
                        refine X.thenRet ?_
                        refine X.thenRet ?_
                        obtain rfl := Option.some.inj H343
                        obtain rfl := ho342
                        try dsimp only [thn] at H
                        refine X.inRet ?_
                        refine X.thenRet ?_
                        obtain rfl := Option.some.inj H
                        refine X.rets (vs := [Value.bool false]) rfl (.t 0 rfl .nil) (fun w' hA => ?_)
                        exact PostV.of hA
                      ·
                        replace H656 := sel_f c664 H656
                        refine C.skip ?_
                        refine X.go ?_
                        refine C.keep (.cons 1 rfl (.cons 2 rfl (.cons 3 rfl (.cons 4 rfl (.cons 5 rfl (.cons 6 rfl (.cons 7 rfl (.cons 8 rfl (.cons 9 rfl (.cons 10 rfl (.cons 11 rfl (.cons 12 rfl .nil)))))))))))) ?_
                        obtain ⟨x668, hx669, hi670, H656⟩ := ix_some H656
                        obtain ⟨x671, hx672, hi673, H656⟩ := ix_some H656
                        obtain ⟨h674, H656⟩ := ck_some H656
                        refine C.reg ?_
                        refine J.q rfl rfl rfl rfl (Q.move (.t 1 rfl)) ?_  -- 30:0 outright.go:187
                        refine J.q rfl rfl rfl rfl (Q.move (.t 10 rfl)) ?_  -- 30:1 outright.go:187
                        refine J.q rfl rfl rfl rfl (Q.move (.t 5 rfl)) ?_  -- 30:2 outright.go:187
                        refine J.q rfl rfl rfl rfl (Q.move (.t 3 rfl)) ?_  -- 30:3 outright.go:187
                        refine J.q rfl rfl rfl rfl (Q.ixG 0 rfl Try.underlying33 Try.sizeOf3 (.t 1 rfl) (.t 0 rfl) hi670) ?_  -- 30:4 outright.go:187
                        refine J.q rfl rfl rfl rfl (Q.load (.t 0 rfl) Try.isAgg3 (ldGa0 (sz := 1) (enc := enI) 1 0 rfl (by decide) (fun _ => rfl) hx669 (.cons .nil))) ?_  -- 30:5 outright.go:187
                        refine J.q rfl rfl rfl rfl (Q.ixG 2 rfl Try.underlying32 Try.sizeOf2 (.t 4 rfl) (.t 0 rfl) hi673) ?_  -- 30:6 outright.go:187
                        refine J.q rfl rfl rfl rfl (Q.load (.t 0 rfl) Try.isAgg2 (ldGa0 (sz := 1) (enc := enI) 1 2 rfl (by decide) (fun _ => rfl) hx672 (.cons .nil))) ?_  -- 30:7 outright.go:187
                        refine J.q rfl rfl rfl rfl (Q.add (.t 7 rfl) (.t 0 rfl) h674) ?_  -- 30:8 outright.go:187
                        refine J.keep (.cons 0 rfl (.cons 1 rfl (.cons 2 rfl (.cons 3 rfl (.cons 4 rfl (.cons 5 rfl (.cons 6 rfl (.cons 7 rfl (.cons 8 rfl (.cons 9 rfl (.cons 11 rfl (.cons 12 rfl (.cons 13 rfl (.cons 14 rfl (.cons 15 rfl (.cons 16 rfl (.cons 17 rfl (.cons 18 rfl (.cons 19 rfl (.cons 20 rfl .nil)))))))))))))))))))) ?_
                        refine J.q rfl rfl rfl rfl (Q.assign (.t 0 rfl)) ?_  -- 30:9 outright.go:187
                        refine J.done ?_
                        refine X.inNormal ?_
                        refine X.go ?_
                        refine C.keep (.cons 0 rfl (.cons 10 rfl (.cons 11 rfl (.cons 12 rfl (.cons 13 rfl (.cons 14 rfl (.cons 15 rfl (.cons 16 rfl (.cons 17 rfl (.cons 18 rfl (.cons 19 rfl (.cons 20 rfl .nil)))))))))))) ?_
                        obtain ⟨h675, H656⟩ := ck_some H656
                        refine C.reg ?_
                        refine J.q rfl rfl rfl rfl (Q.move (.t 1 rfl)) ?_  -- 27:0 outright.go:183
                        refine J.q rfl rfl rfl rfl (Q.add (.t 0 rfl) .c h675) ?_  -- 27:1 outright.go:183
                        refine J.keep (.cons 0 rfl (.cons 1 rfl (.cons 2 rfl (.cons 4 rfl (.cons 5 rfl (.cons 6 rfl (.cons 7 rfl (.cons 8 rfl (.cons 9 rfl (.cons 10 rfl (.cons 11 rfl (.cons 12 rfl (.cons 13 rfl .nil))))))))))))) ?_
                        refine J.q rfl rfl rfl rfl (Q.assign (.t 0 rfl)) ?_  -- 27:2 outright.go:183
                        refine J.done ?_
                        obtain rfl := Option.some.inj H656
                        exact X.nxi ((v650 + (1 : Int)), (v651 + x671)) () ho655 (.cons 0 rfl (.cons 3 rfl (.cons 4 rfl (.cons 5 rfl (.cons 6 rfl (.cons 7 rfl (.cons 8 rfl (.cons 9 rfl (.cons 10 rfl (.cons 11 rfl (.cons 12 rfl (.cons 13 rfl .nil)))))))))))) (fun _ h => h)
                    ·
                      replace H656 := sel_f c657 H656
                      refine C.exit ?_
                      refine X.thenExit ?_
                      obtain rfl := Option.some.inj H656
                      obtain rfl : (Sum.inl (v650, v651)) = t652 := ho655
                      try dsimp only [thn] at H518
                      refine X.thenExit ?_
                      refine X.inHit ?_
                      refine X.go ?_
                      refine C.keep (.cons 2 rfl (.cons 3 rfl (.cons 5 rfl (.cons 6 rfl (.cons 7 rfl (.cons 8 rfl (.cons 9 rfl (.cons 10 rfl (.cons 11 rfl (.cons 12 rfl .nil)))))))))) ?_
                      obtain ⟨x676, hx677, hi678, H518⟩ := ixg_some H518
                      obtain ⟨x679, hx680, hi681, H518⟩ := ixg_some H518
                      refine C.drawS ?_
                      refine JC.q 0 rfl rfl rfl rfl (Q.move (.t 3 rfl)) ?_  -- 31:0 outright.go:189
                      refine JC.q 1 rfl rfl rfl rfl (Q.move (.t 0 rfl)) ?_  -- 31:1 outright.go:189
                      refine JC.gQ 2 rfl (Gd.one rfl rfl rfl (.t 0 rfl)) rfl rfl (.p 3 rfl .nil) (fun hg => (Q.move (.t 0 rfl))) ?_  -- 31:2 outright.go:189
                      refine JC.gQ 3 rfl (Gd.one rfl rfl rfl (.t 1 rfl)) rfl rfl (.g 0 rfl .nil) (fun hg => (Q.eql (.t 0 rfl) .c)) ?_  -- 31:3 outright.go:189
                      refine JC.gQ 4 rfl (Gd.one rfl rfl rfl (.t 2 rfl)) rfl rfl (.g 0 rfl .nil) (fun hg => (Q.move (.t 0 rfl))) ?_  -- 31:4 outright.go:189
                      refine JC.gQ 5 rfl (Gd.two rfl rfl rfl (.t 0 rfl)) rfl rfl (.p 5 rfl .nil) (fun hg => (Q.move (.t 0 rfl))) ?_  -- 31:5 outright.go:189
                      refine JC.gQ 6 rfl (Gd.two rfl rfl rfl (.t 1 rfl)) rfl rfl (.p 15 rfl .nil) (fun hg => (Q.fa0 2 Try.underlying26 rfl Try.sizeOf24 rfl rfl (.t 0 rfl))) ?_  -- 31:6 outright.go:189
                      refine JC.gQ 7 rfl (Gd.two rfl rfl rfl (.t 2 rfl)) rfl rfl (.g 0 rfl .nil) (fun hg => (Q.load (.t 0 rfl) Try.isAgg24 (ldT 1 4 rfl (.skip (.skip (.cons .nil)))))) ?_  -- 31:7 outright.go:189
                      refine JC.gQ 8 rfl (Gd.two rfl rfl rfl (.t 3 rfl)) rfl rfl (.p 13 rfl .nil) (fun hg => (Q.move (.t 0 rfl))) ?_  -- 31:8 outright.go:189
                      refine JC.gQ 9 rfl (Gd.two rfl rfl rfl (.t 4 rfl)) rfl rfl (.p 11 rfl .nil) (fun hg => (Q.move (.t 0 rfl))) ?_  -- 31:9 outright.go:189
                      refine JC.gQ 10 rfl (Gd.two rfl rfl rfl (.t 5 rfl)) rfl rfl (.g 1 rfl (.g 0 rfl .nil)) (fun hg => (Q.ixG 1 rfl Try.underlying33 Try.sizeOf3 (.t 0 rfl) (.t 1 rfl) (hi678 hg))) ?_  -- 31:10 outright.go:189
                      refine JC.gQ 11 rfl (Gd.two rfl rfl rfl (.t 6 rfl)) rfl rfl (.g 0 rfl .nil) (fun hg => (Q.load (.t 0 rfl) Try.isAgg3 (ldGa0 (sz := 1) (enc := enI) 1 1 rfl (by decide) (fun _ => rfl) (hx677 hg) (.cons .nil)))) ?_  -- 31:11 outright.go:189
                      refine JC.gQ 12 rfl (Gd.two rfl rfl rfl (.t 7 rfl)) rfl rfl (.g 4 rfl (.g 0 rfl .nil)) (fun hg => (Q.ixO 0 rfl Try.underlying24 Try.sizeOf40 (.t 0 rfl) (.t 1 rfl) rfl (hi681 hg))) ?_  -- 31:12 outright.go:189
                      refine JC.gQ 13 rfl (Gd.two rfl rfl rfl (.t 8 rfl)) rfl rfl (.g 0 rfl .nil) (fun hg => (Q.fa 3 Try.underlying40 rfl Try.sizeOf2 rfl rfl (.t 0 rfl))) ?_  -- 31:13 outright.go:189
                      refine JC.gQ 14 rfl (Gd.two rfl rfl rfl (.t 9 rfl)) rfl rfl (.g 0 rfl .nil) (fun hg => (Q.load (.t 0 rfl) Try.isAgg2 (ldOa 1 0 rfl (hx680 hg) (.skip (.skip (.skip (.cons .nil))))))) ?_  -- 31:14 outright.go:189
                      refine JC.gQ 15 rfl (Gd.two rfl rfl rfl (.t 10 rfl)) rfl rfl (.g 9 rfl (.g 0 rfl .nil)) (fun hg => (Q.eql (.t 0 rfl) (.t 1 rfl))) ?_  -- 31:15 outright.go:189
                      refine JC.gQ 16 rfl (Gd.one rfl rfl rfl (.t 14 rfl)) rfl rfl (.g 11 rfl (.n 0 rfl .nil)) (fun hg => (Q.and_ (.t 0 rfl) (.t 1 rfl))) ?_  -- 31:16 outright.go:189
                      refine JC.q 17 rfl rfl rfl rfl (Q.or_ (.t 15 rfl) (.t 0 rfl)) ?_  -- 31:17 outright.go:189
                      refine JC.tail [0, 1, 3, 7, 15, 31, 31, 95, 31, 31, 799, 1823, 4063, 8159, 16351, 32767, 65535, 131071, 262143] 1 mixed (by kernel_rfl) (by kernel_rfl) (fun _ h => h) ?_
                      refine JT.pick [18] (by kernel_rfl) (.cons (DStep.of rfl ?_) .nil)
                      refine J.keep (.cons 0 rfl (.cons 1 rfl (.cons 2 rfl (.cons 3 rfl (.cons 4 rfl (.cons 5 rfl (.cons 6 rfl (.cons 7 rfl (.cons 8 rfl (.cons 9 rfl (.cons 10 rfl (.cons 11 rfl (.cons 12 rfl (.cons 13 rfl (.cons 14 rfl (.cons 15 rfl (.cons 16 rfl (.cons 17 rfl (.cons 18 rfl (.cons 19 rfl (.cons 20 rfl (.cons 22 rfl (.cons 23 rfl (.cons 24 rfl (.cons 25 rfl (.cons 26 rfl (.cons 27 rfl .nil))))))))))))))))))))))))))) ?_
                      refine J.q rfl rfl rfl rfl (Q.assign (.t 0 rfl)) ?_  -- 31:18 outright.go:189
                      refine J.finF rfl rfl ?_
                      refine JT.end_ ?_
                      refine X.inNormal ?_
                      refine X.go ?_
                      refine C.keep (.cons 0 rfl (.cons 21 rfl (.cons 22 rfl (.cons 23 rfl (.cons 24 rfl (.cons 25 rfl (.cons 26 rfl (.cons 27 rfl .nil)))))))) ?_
                      obtain ⟨h682, H518⟩ := ck_some H518
                      refine C.reg ?_
                      refine J.q rfl rfl rfl rfl (Q.move (.t 1 rfl)) ?_  -- 20:0 outright.go:177
                      refine J.q rfl rfl rfl rfl (Q.add (.t 0 rfl) .c h682) ?_  -- 20:1 outright.go:177
                      refine J.keep (.cons 0 rfl (.cons 1 rfl (.cons 2 rfl (.cons 4 rfl (.cons 5 rfl (.cons 6 rfl (.cons 7 rfl (.cons 8 rfl (.cons 9 rfl .nil))))))))) ?_
                      refine J.q rfl rfl rfl rfl (Q.assign (.t 0 rfl)) ?_  -- 20:2 outright.go:177
                      refine J.done ?_
                      obtain rfl := Option.some.inj H518
                      exact X.nxi ((v512 + (1 : Int)), (v513 || ((decide (r532.2 = (0 : Int))) && (decide (v651 = x679.limit))))) () ho517 (.cons 0 rfl (.cons 3 rfl (.cons 4 rfl (.cons 5 rfl (.cons 6 rfl (.cons 7 rfl (.cons 8 rfl (.cons 9 rfl .nil)))))))) (fun _ h => h.to (.cons (.there .here) (.cons (.there .here) (.cons (.there .here) (.cons (.there .here) .drop)))))
              ·
                replace H518 := sel_f c519 H518
                refine C.exit ?_
                refine X.thenExit ?_
                obtain rfl := Option.some.inj H518
                obtain rfl : (Sum.inl (v512, v513)) = t514 := ho517
                try dsimp only [thn] at H343
                refine X.thenExit ?_
                refine X.inHit ?_
                refine X.go ?_
                refine C.keep (.cons 2 rfl (.cons 3 rfl (.cons 5 rfl (.cons 6 rfl (.cons 7 rfl (.cons 8 rfl .nil)))))) ?_
                refine C.seq ?_
                refine C.reg ?_
                refine J.q rfl rfl rfl rfl (Q.move (.t 1 rfl)) ?_  -- 32:0 outright.go:191
                refine J.q rfl rfl rfl rfl (Q.neq (.t 0 rfl) .c) ?_  -- 32:1 outright.go:191
                refine J.q rfl rfl rfl rfl (Q.move (.t 0 rfl)) ?_  -- 32:2 outright.go:191
                refine J.gQ (Gd.one rfl rfl rfl (.t 0 rfl)) rfl rfl rfl (.p 3 rfl .nil) (fun hg => (Q.move (.t 0 rfl))) ?_  -- 32:3 outright.go:191
                refine J.gQ (Gd.one rfl rfl rfl (.t 1 rfl)) rfl rfl rfl (.g 0 rfl .nil) (fun hg => (Q.not_ (.t 0 rfl))) ?_  -- 32:4 outright.go:191
                refine J.q rfl rfl rfl rfl (Q.or_ (.t 2 rfl) (.t 0 rfl)) ?_  -- 32:5 outright.go:191
                refine J.end_ ?_
                refine C.keep (.cons 0 rfl (.cons 8 rfl (.cons 9 rfl (.cons 10 rfl (.cons 11 rfl .nil))))) ?_
                refine C.cond (.t 0 rfl) (fun c683 => ?_) (fun c683 => ?_)
                ·
                  replace H343 := sel_t c683 H343
                  refine C.seq ?_
                  refine C.reg ?_
                  refine J.q rfl rfl rfl rfl (Q.assign .c) ?_  -- 33:0 outright.go:192
                  refine J.end_ ?_
                  refine C.keep (.cons 0 rfl .nil) ?_
                  refine C.ret ?_
                  refine X.inRet ?_
                  refine X.thenRet ?_
                  refine X.thenRet ?_
                  obtain rfl := Option.some.inj H343
                  obtain rfl := ho342
                  try dsimp only [thn] at H
                  refine X.inRet ?_
                  refine X.thenRet ?_
                  obtain rfl := Option.some.inj H
                  refine X.rets (vs := [Value.bool false]) rfl (.t 0 rfl .nil) (fun w' hA => ?_)
                  exact PostV.of hA
                ·
                  replace H343 := sel_f c683 H343
                  refine C.skip ?_
                  refine X.inNormal ?_
                  refine X.go ?_
                  refine C.keep (.cons 1 rfl (.cons 2 rfl (.cons 3 rfl (.cons 4 rfl .nil)))) ?_
                  obtain ⟨h685, H343⟩ := ck_some H343
                  refine C.reg ?_
                  refine J.q rfl rfl rfl rfl (Q.move (.t 0 rfl)) ?_  -- 12:0 outright.go:168
                  refine J.q rfl rfl rfl rfl (Q.add (.t 0 rfl) .c h685) ?_  -- 12:1 outright.go:168
                  refine J.keep (.cons 0 rfl (.cons 1 rfl (.cons 3 rfl (.cons 4 rfl (.cons 5 rfl .nil))))) ?_
                  refine J.q rfl rfl rfl rfl (Q.assign (.t 0 rfl)) ?_  -- 12:2 outright.go:168
                  refine J.done ?_
                  obtain rfl := Option.some.inj H343
                  exact X.nxi (v338 + (1 : Int)) () ho342 (.cons 0 rfl (.cons 3 rfl (.cons 4 rfl (.cons 5 rfl .nil)))) (fun _ h => h.to (.cons (.there .here) (.cons (.there .here) (.cons (.there .here) .drop))))
        ·
          replace H343 := sel_f c344 H343
          refine C.exit ?_
          refine X.thenExit ?_
          obtain rfl := Option.some.inj H343
          obtain rfl : (Sum.inl v338) = t339 := ho342
          try dsimp only [thn] at H
          refine X.thenExit ?_
          refine X.inHit ?_
          refine X.go ?_
          refine C.keep .nil ?_
          refine C.seq ?_
          obtain ⟨r686, hr687, H⟩ := bd_some H
          refine C.reg ?_
          refine J.callV rfl rfl rfl rfl (run_static Try.call7 .f .nil rfl) (fun w hA => fine_calls w   hr687) ?_  -- 34:0 outright.go:195
          refine J.q rfl rfl rfl rfl (Q.assign (.t 0 rfl)) ?_  -- 34:1 outright.go:195
          refine J.end_ ?_
          refine C.keep (.cons 0 rfl .nil) ?_
          refine C.ret ?_
          obtain rfl := Option.some.inj H
          refine X.rets (vs := [Value.bool r686]) rfl (.t 0 rfl .nil) (fun w' hA => ?_)
          exact PostV.of hA

noncomputable def F_CableLater (c : Cable) (q : (List Int)) (q2 : (List Int)) (k : (List Int)) (least : Int) (more : Int) : Option Bool := bd (F_valid (c)) fun r2 => (sel (!r2) (bd (F_fine ) fun r5 => (some (r5))) (bd (F_granting (c) (q) (k)) fun r7 => (bd (F_granting (c) (q2) (k)) fun r13 => (bd (iter (σ := (Int × (List Int))) (τ := (Int × (List Int))) (fun (v34, v35) => sel (decide (v34 < (r7.1.length : Int))) (ix r7.2 v34 fun x44 => (ck (IntKind.wrap .i64 least = least) (ck (0 ≤ least ∧ 1 ≤ (8 : Int)) (sel (decide ((least % (8 : Int)) ≤ x44)) (ix r7.1 v34 fun x50 => (ix v35 v34 fun x53 => (ck (I64ok (v34 + (1 : Int))) (some (.inl ((v34 + (1 : Int)), (v35.set (Int.toNat v34) x50))))))) (ck (I64ok (v34 + (1 : Int))) (some (.inl ((v34 + (1 : Int)), v35)))))))) (some (.inr (v34, v35)))) ((0 : Int), r13.1)) (fun (v34, v35) => bd (F_Share (c) (r7.1) (r7.2)) fun r58 => (bd (F_Share (c) (v35) (r7.2)) fun r62 => (ck ((([] : List Nd) ++ c.nodes).length ≤ 68719476736) (bd (iter (σ := (Int × Cable)) (τ := (Int × Cable)) (fun (v81, v82) => sel (decide (v81 < (v82.nodes.length : Int))) (ix v82.nodes v81 fun x91 => (ck (IntKind.wrap .i64 more = more) (ck (I64ok (x91.limit + more)) (ix v82.nodes v81 fun x96 => (ck (I64ok (v81 + (1 : Int))) (some (.inl ((v81 + (1 : Int)), { v82 with nodes := (v82.nodes.set (Int.toNat v81) { x96 with limit := (min (3932160 : Int) (x91.limit + more)) }) })))))))) (some (.inr (v81, v82)))) ((0 : Int), { c with nodes := (([] : List Nd) ++ c.nodes) })) (fun (v81, v82) => bd (F_Share (v82) (r7.1) (r7.2)) fun r100 => (sel ((((((decide (r58.2 ≠ (0 : Int))) || (decide (r62.2 ≠ (0 : Int)))) || (decide (r100.2 ≠ (0 : Int)))) || (decide ((r58.1.length : Int) ≠ (r7.1.length : Int)))) || (decide ((r62.1.length : Int) ≠ (r7.1.length : Int)))) || (decide ((r100.1.length : Int) ≠ (r7.1.length : Int)))) (some (false)) (bd (F_rOrder (r7.2)) fun r105 => (ix r105 (0 : Int) fun x109 => (bd (iter (σ := Int) (τ := (Int ⊕ Bool)) (fun v126 => sel (decide (v126 < (r7.1.length : Int))) (ix r7.2 v126 fun x133 => (ck (IntKind.wrap .i64 least = least) (ck (0 ≤ least ∧ 1 ≤ (8 : Int)) (ixg ((decide ((least % (8 : Int)) ≤ x133)) == true) r58.1 v126 fun x138 => (ixg ((decide ((least % (8 : Int)) ≤ x133)) == true) r62.1 v126 fun x141 => (sel ((decide ((least % (8 : Int)) ≤ x133)) && (decide (x138 ≠ x141))) (some (.inr (.inr (false)))) (ck (I64ok (v126 + (1 : Int))) (some (.inl (v126 + (1 : Int))))))))))) (some (.inr (.inl v126)))) (0 : Int)) (fun t => thn t (fun v126 => ix r100.1 x109 fun x147 => (ix r58.1 x109 fun x150 => (bdg ((decide (x150 ≤ x147)) == true) (F_fine ) fun r153 => (some (((decide (x150 ≤ x147)) && r153))))))))))))))))))))
theorem CableLater_calls (w : World) (ca : Option Addr) (cc : Nat) (c : Cable) (qa : Option Addr) (qc : Nat) (q : (List Int)) (q2a : Option Addr) (q2c : Nat) (q2 : (List Int)) (ka : Option Addr) (kc : Nat) (k : (List Int))  (least : Int)  (more : Int) (co : (rowO ca 8 Nd.enc c.nodes).ok w) (cl : c.nodes.length ≤ cc) (qo : (rowO qa 1 (enK .u16) q).ok w) (ql : q.length ≤ qc) (q2o : (rowO q2a 1 (enK .u16) q2).ok w) (q2l : q2.length ≤ q2c) (ko : (rowO ka 1 (enK .u8) k).ok w) (kl : k.length ≤ kc) {r : Bool} (H : F_CableLater c q q2 k least more = some r) : Calls Try.prog 3 [Value.agg (Cable.cells c ca cc).toArray, Value.slice qa q.length qc, Value.slice q2a q2.length q2c, Value.slice ka k.length kc, Value.int .u8 least, Value.int .u16 more].toArray w (PostV (Value.bool r) w) := by
  unfold F_CableLater at H
  refine Calls.enter Try.func3 rfl rfl rfl ?_
  refine C.conseq (A' := St w no [] [rowO ca 8 Nd.enc c.nodes, rowO qa 1 (enK .u16) q, rowO q2a 1 (enK .u16) q2, rowO ka 1 (enK .u8) k]) (fun _ e => by subst e; exact St.init _ _ (okCons co (okCons qo (okCons q2o (okCons ko okNil))))) ?_
  refine C.seq ?_
  refine C.reg ?_
  refine J.box rfl rfl rfl rfl (vs := (Cable.cells c ca cc)) (.t 0 rfl) rfl ?_; intro b1 _  -- 0:0 outright.go:199
  refine J.q rfl rfl rfl rfl (Q.assign .c) ?_  -- 0:1 outright.go:199
  refine J.end_ ?_
  refine C.keep (.cons 1 rfl (.cons 3 rfl (.cons 4 rfl (.cons 5 rfl (.cons 6 rfl (.cons 7 rfl .nil)))))) ?_
  refine C.seq ?_
  refine C.seq ?_
  obtain ⟨r2, hr3, H⟩ := bd_some H
  refine C.reg ?_
  refine J.q rfl rfl rfl rfl (Q.loadsV (.t 0 rfl) ⟨Try.isAgg26, Try.sizeOf26⟩ (ldT 3 0 rfl (.cons (.cons (.cons .nil)))) rfl) ?_  -- 1:0 outright.go:200
  refine J.callV rfl rfl rfl rfl (run_static Try.call6 .f (.cons (.t 0 rfl) .nil) rfl) (fun w hA => valid_calls w ca cc (c) (hA.okO 0 rfl) cl hr3) ?_  -- 1:1 outright.go:200
  refine J.q rfl rfl rfl rfl (Q.not_ (.t 0 rfl)) ?_  -- 1:2 outright.go:200
  refine J.end_ ?_
  refine C.keep (.cons 0 rfl (.cons 3 rfl (.cons 4 rfl (.cons 5 rfl (.cons 6 rfl (.cons 7 rfl (.cons 8 rfl .nil))))))) ?_
  refine C.cond (.t 0 rfl) (fun c4 => ?_) (fun c4 => ?_)
  ·
    replace H := sel_t c4 H
    refine C.seq ?_
    obtain ⟨r5, hr6, H⟩ := bd_some H
    refine C.reg ?_
    refine J.callV rfl rfl rfl rfl (run_static Try.call7 .f .nil rfl) (fun w hA => fine_calls w   hr6) ?_  -- 2:0 outright.go:201
    refine J.q rfl rfl rfl rfl (Q.assign (.t 0 rfl)) ?_  -- 2:1 outright.go:201
    refine J.end_ ?_
    refine C.keep (.cons 0 rfl .nil) ?_
    refine C.ret ?_
    refine X.thenRet ?_
    obtain rfl := Option.some.inj H
    refine X.rets (vs := [Value.bool r5]) rfl (.t 0 rfl .nil) (fun w' hA => ?_)
    exact PostV.of hA
  ·
    replace H := sel_f c4 H
    refine C.skip ?_
    refine X.go ?_
    refine C.keep (.cons 1 rfl (.cons 2 rfl (.cons 3 rfl (.cons 4 rfl (.cons 5 rfl (.cons 6 rfl .nil)))))) ?_
    refine C.seq ?_
    obtain ⟨r7, hr8, H⟩ := bd_some H
    refine C.reg ?_
    refine J.q rfl rfl rfl rfl (Q.loadsV (.t 0 rfl) ⟨Try.isAgg26, Try.sizeOf26⟩ (ldT 3 0 rfl (.cons (.cons (.cons .nil)))) rfl) ?_  -- 3:0 outright.go:203
    refine J.q rfl rfl rfl rfl (Q.move (.t 2 rfl)) ?_  -- 3:1 outright.go:203
    refine J.q rfl rfl rfl rfl (Q.move (.t 5 rfl)) ?_  -- 3:2 outright.go:203
    refine J.callN rfl rfl rfl rfl (run_static Try.call8 .f (.cons (.t 2 rfl) (.cons (.t 1 rfl) (.cons (.t 0 rfl) .nil))) rfl) (fun w hA => granting_calls w ca cc (c) qa qc (q) ka kc (k) (hA.okO 0 rfl) cl (hA.okO 1 rfl) ql (hA.okO 3 rfl) kl hr8) ?_  -- 3:3 outright.go:203
    rintro ⟨⟨a9, c10⟩, ⟨a11, c12⟩⟩ _
    refine J.splitM ?_
    refine J.q rfl rfl rfl rfl (Q.move (.t 0 rfl)) ?_  -- 3:4 outright.go:203
    refine J.q rfl rfl rfl rfl (Q.extract (.t 0 rfl) rfl) ?_  -- 3:5 outright.go:203
    refine J.q rfl rfl rfl rfl (Q.extract (.t 1 rfl) rfl) ?_  -- 3:6 outright.go:203
    refine J.q rfl rfl rfl rfl (Q.assign (.t 1 rfl)) ?_  -- 3:7 outright.go:203
    refine J.q rfl rfl rfl rfl (Q.assign (.t 1 rfl)) ?_  -- 3:8 outright.go:203
    refine J.end_ ?_
    refine C.keep (.cons 0 rfl (.cons 1 rfl (.cons 9 rfl (.cons 11 rfl (.cons 12 rfl (.cons 13 rfl (.cons 14 rfl .nil))))))) ?_
    refine C.seq ?_
    obtain ⟨r13, hr14, H⟩ := bd_some H
    refine C.reg ?_
    refine J.q rfl rfl rfl rfl (Q.loadsV (.t 2 rfl) ⟨Try.isAgg26, Try.sizeOf26⟩ (ldT 3 2 rfl (.cons (.cons (.cons .nil)))) rfl) ?_  -- 4:0 outright.go:204
    refine J.q rfl rfl rfl rfl (Q.move (.t 4 rfl)) ?_  -- 4:1 outright.go:204
    refine J.q rfl rfl rfl rfl (Q.move (.t 6 rfl)) ?_  -- 4:2 outright.go:204
    refine J.callN rfl rfl rfl rfl (run_static Try.call8 .f (.cons (.t 2 rfl) (.cons (.t 1 rfl) (.cons (.t 0 rfl) .nil))) rfl) (fun w hA => granting_calls w ca cc (c) q2a q2c (q2) ka kc (k) (hA.okO 0 rfl) cl (hA.okO 2 rfl) q2l (hA.okO 3 rfl) kl hr14) ?_  -- 4:3 outright.go:204
    rintro ⟨⟨a15, c16⟩, ⟨a17, c18⟩⟩ _
    refine J.splitM ?_
    refine J.q rfl rfl rfl rfl (Q.move (.t 0 rfl)) ?_  -- 4:4 outright.go:204
    refine J.q rfl rfl rfl rfl (Q.extract (.t 0 rfl) rfl) ?_  -- 4:5 outright.go:204
    refine J.q rfl rfl rfl rfl (Q.extract (.t 1 rfl) rfl) ?_  -- 4:6 outright.go:204
    refine J.q rfl rfl rfl rfl (Q.assign (.t 1 rfl)) ?_  -- 4:7 outright.go:204
    refine J.q rfl rfl rfl rfl (Q.assign (.t 1 rfl)) ?_  -- 4:8 outright.go:204
    refine J.end_ ?_
    refine C.keep (.cons 1 rfl (.cons 9 rfl (.cons 10 rfl (.cons 11 rfl (.cons 14 rfl (.cons 15 rfl .nil)))))) ?_
    refine C.seq ?_
    refine C.seq ?_
    refine C.reg ?_
    refine J.q rfl rfl rfl rfl (Q.assign .c) ?_  -- 5:0 outright.go:205
    refine J.end_ ?_
    refine C.block ?_
    obtain ⟨t38, ht39, H⟩ := bd_some H
    refine C.it_2 (fun s r => Value.int .i64 s.1) (fun s r => Value.slice r.1 s.2.length r.2) (fun s r => St w no [rowG 2 1 r.1 s.2.length r.2 (s.2.flatMap enI), rowG 2 1 a9 r7.1.length c10 (r7.1.flatMap enI), rowG 3 1 a11 r7.2.length c12 (r7.2.flatMap enI), bx b1 26 (Cable.cells c ca cc)] [rowO ca 8 Nd.enc c.nodes, rowO qa 1 (enK .u16) q, rowO q2a 1 (enK .u16) q2, rowO ka 1 (enK .u8) k]) ((0 : Int), r13.1) (a15, c16) ht39 rfl rfl (fun _ h => h.to (.cons .here (.cons (.there .here) (.cons (.there .here) (.cons (.there .here) .drop))))) ?_
    rintro ⟨v34, v35⟩ ⟨a36, c37⟩ o40 H42 ho41
    try dsimp only at H42 ⊢
    refine C.seq ?_
    refine C.seq ?_
    refine C.reg ?_
    refine J.q rfl rfl rfl rfl (Q.move (.t 0 rfl)) ?_  -- 6:0 outright.go:205
    refine J.q rfl rfl rfl rfl (Q.move (.t 4 rfl)) ?_  -- 6:1 outright.go:205
    refine J.q rfl rfl rfl rfl (Q.len Try.underlying32 (.t 0 rfl)) ?_  -- 6:2 outright.go:205
    refine J.q rfl rfl rfl rfl (Q.lss (.t 2 rfl) (.t 0 rfl)) ?_  -- 6:3 outright.go:205
    refine J.end_ ?_
    refine C.keep (.cons 0 rfl (.cons 4 rfl (.cons 5 rfl (.cons 6 rfl (.cons 7 rfl (.cons 8 rfl (.cons 9 rfl (.cons 10 rfl .nil)))))))) ?_
    refine C.cond (.t 0 rfl) (fun c43 => ?_) (fun c43 => ?_)
    ·
      replace H42 := sel_t c43 H42
      refine C.skip ?_
      refine X.go ?_
      refine C.keep (.cons 1 rfl (.cons 2 rfl (.cons 3 rfl (.cons 4 rfl (.cons 5 rfl (.cons 6 rfl (.cons 7 rfl .nil))))))) ?_
      refine C.seq ?_
      refine C.block ?_
      refine C.seq ?_
      obtain ⟨x44, hx45, hi46, H42⟩ := ix_some H42
      obtain ⟨h47, H42⟩ := ck_some H42
      obtain ⟨h48, H42⟩ := ck_some H42
      refine C.reg ?_
      refine J.q rfl rfl rfl rfl (Q.move (.t 2 rfl)) ?_  -- 8:0 outright.go:206
      refine J.q rfl rfl rfl rfl (Q.move (.t 1 rfl)) ?_  -- 8:1 outright.go:206
      refine J.q rfl rfl rfl rfl (Q.ixG 2 rfl Try.underlying33 Try.sizeOf3 (.t 1 rfl) (.t 0 rfl) hi46) ?_  -- 8:2 outright.go:206
      refine J.q rfl rfl rfl rfl (Q.load (.t 0 rfl) Try.isAgg3 (ldGa0 (sz := 1) (enc := enI) 1 2 rfl (by decide) (fun _ => rfl) hx45 (.cons .nil))) ?_  -- 8:3 outright.go:206
      refine J.q rfl rfl rfl rfl (Q.move (.t 9 rfl)) ?_  -- 8:4 outright.go:206
      refine J.q rfl rfl rfl rfl (Q.conv Try.underlying5 Try.underlying3 (.t 0 rfl) h47) ?_  -- 8:5 outright.go:206
      refine J.q rfl rfl rfl rfl (Q.remE (.t 0 rfl) .c h48) ?_  -- 8:6 outright.go:206
      refine J.q rfl rfl rfl rfl (Q.geq (.t 3 rfl) (.t 0 rfl)) ?_  -- 8:7 outright.go:206
      refine J.end_ ?_
      refine C.keep (.cons 0 rfl (.cons 8 rfl (.cons 9 rfl (.cons 10 rfl (.cons 11 rfl (.cons 12 rfl (.cons 13 rfl (.cons 14 rfl .nil)))))))) ?_
      refine C.cond (.t 0 rfl) (fun c49 => ?_) (fun c49 => ?_)
      ·
        replace H42 := sel_t c49 H42
        obtain ⟨x50, hx51, hi52, H42⟩ := ix_some H42
        obtain ⟨x53, hx54, hi55, H42⟩ := ix_some H42
        refine C.reg ?_
        refine J.q rfl rfl rfl rfl (Q.move (.t 2 rfl)) ?_  -- 9:0 outright.go:207
        refine J.q rfl rfl rfl rfl (Q.move (.t 2 rfl)) ?_  -- 9:1 outright.go:207
        refine J.q rfl rfl rfl rfl (Q.move (.t 6 rfl)) ?_  -- 9:2 outright.go:207
        refine J.q rfl rfl rfl rfl (Q.move (.t 4 rfl)) ?_  -- 9:3 outright.go:207
        refine J.q rfl rfl rfl rfl (Q.ixG 1 rfl Try.underlying32 Try.sizeOf2 (.t 1 rfl) (.t 0 rfl) hi52) ?_  -- 9:4 outright.go:207
        refine J.q rfl rfl rfl rfl (Q.load (.t 0 rfl) Try.isAgg2 (ldGa0 (sz := 1) (enc := enI) 1 1 rfl (by decide) (fun _ => rfl) hx51 (.cons .nil))) ?_  -- 9:5 outright.go:207
        refine J.q rfl rfl rfl rfl (Q.ixG 0 rfl Try.underlying32 Try.sizeOf2 (.t 5 rfl) (.t 4 rfl) hi55) ?_  -- 9:6 outright.go:207
        refine J.s rfl rfl rfl (S.storeL0 (enc := enI) (u' := x50) (vs := [Value.int .i64 x50]) (.t 0 rfl) (.t 1 rfl) Try.sizeOf2 (fun _ => rfl) rfl rfl (Ones.all (.cons rfl .nil)) hx54 (.cons .nil) .here) ?_  -- 9:7 outright.go:207
        refine J.keep (L' := [(66, _), (65, _), (64, _), (63, _), (62, _), (61, _), (60, Value.slice a36 (v35.set (Int.toNat v34) x50).length c37), (59, _), (17, _), (15, Value.slice a36 (v35.set (Int.toNat v34) x50).length c37), (14, _), (13, _), (6, _), (4, _), (5, _)]) (.cons 0 rfl (.cons 1 rfl (.cons 2 rfl (.cons 3 rfl (.cons 4 rfl (.cons 5 rfl (.cons 6 sl_set (.cons 7 rfl (.cons 8 rfl (.cons 9 sl_set (.cons 10 rfl (.cons 11 rfl (.cons 12 rfl (.cons 13 rfl (.cons 14 rfl .nil))))))))))))))) ?_
        refine J.done ?_
        refine X.inNormal ?_
        refine X.go ?_
        refine C.keep (.cons 8 rfl (.cons 9 rfl (.cons 10 rfl (.cons 11 rfl (.cons 12 rfl (.cons 13 rfl (.cons 14 rfl .nil))))))) ?_
        obtain ⟨h56, H42⟩ := ck_some H42
        refine C.reg ?_
        refine J.q rfl rfl rfl rfl (Q.move (.t 0 rfl)) ?_  -- 7:0 outright.go:205
        refine J.q rfl rfl rfl rfl (Q.add (.t 0 rfl) .c h56) ?_  -- 7:1 outright.go:205
        refine J.keep (.cons 0 rfl (.cons 1 rfl (.cons 3 rfl (.cons 4 rfl (.cons 5 rfl (.cons 6 rfl (.cons 7 rfl (.cons 8 rfl .nil)))))))) ?_
        refine J.q rfl rfl rfl rfl (Q.assign (.t 0 rfl)) ?_  -- 7:2 outright.go:205
        refine J.done ?_
        obtain rfl := Option.some.inj H42
        exact X.nxi ((v34 + (1 : Int)), (v35.set (Int.toNat v34) x50)) (a36, c37) ho41 (.cons 0 rfl (.cons 3 rfl (.cons 4 rfl (.cons 5 rfl (.cons 6 rfl (.cons 7 rfl (.cons 8 rfl .nil))))))) (fun _ h => h)
      ·
        replace H42 := sel_f c49 H42
        refine C.skip ?_
        refine X.inNormal ?_
        refine X.go ?_
        refine C.keep (.cons 1 rfl (.cons 2 rfl (.cons 3 rfl (.cons 4 rfl (.cons 5 rfl (.cons 6 rfl (.cons 7 rfl .nil))))))) ?_
        obtain ⟨h57, H42⟩ := ck_some H42
        refine C.reg ?_
        refine J.q rfl rfl rfl rfl (Q.move (.t 0 rfl)) ?_  -- 7:0 outright.go:205
        refine J.q rfl rfl rfl rfl (Q.add (.t 0 rfl) .c h57) ?_  -- 7:1 outright.go:205
        refine J.keep (.cons 0 rfl (.cons 1 rfl (.cons 3 rfl (.cons 4 rfl (.cons 5 rfl (.cons 6 rfl (.cons 7 rfl (.cons 8 rfl .nil)))))))) ?_
        refine J.q rfl rfl rfl rfl (Q.assign (.t 0 rfl)) ?_  -- 7:2 outright.go:205
        refine J.done ?_
        obtain rfl := Option.some.inj H42
        exact X.nxi ((v34 + (1 : Int)), v35) (a36, c37) ho41 (.cons 0 rfl (.cons 3 rfl (.cons 4 rfl (.cons 5 rfl (.cons 6 rfl (.cons 7 rfl (.cons 8 rfl .nil))))))) (fun _ h => h)
    ·
      replace H42 := sel_f c43 H42
      refine C.exit ?_
      refine X.thenExit ?_
      obtain rfl := Option.some.inj H42
      obtain rfl : (v34, v35) = t38 := ho41
      try dsimp only at H
      refine X.thenExit ?_
      refine X.inHit ?_
      refine X.go ?_
      refine C.keep (.cons 2 rfl (.cons 3 rfl (.cons 4 rfl (.cons 5 rfl (.cons 6 rfl (.cons 7 rfl .nil)))))) ?_
      refine C.seq ?_
      obtain ⟨r58, hr59, H⟩ := bd_some H
      refine C.reg ?_
      refine J.q rfl rfl rfl rfl (Q.loadsV (.t 3 rfl) ⟨Try.isAgg26, Try.sizeOf26⟩ (ldT 3 3 rfl (.cons (.cons (.cons .nil)))) rfl) ?_  -- 10:0 outright.go:210
      refine J.q rfl rfl rfl rfl (Q.move (.t 3 rfl)) ?_  -- 10:1 outright.go:210
      refine J.q rfl rfl rfl rfl (Q.move (.t 3 rfl)) ?_  -- 10:2 outright.go:210
      refine J.callN rfl rfl rfl rfl (run_static Try.call9 .f (.cons (.t 2 rfl) (.cons (.t 1 rfl) (.cons (.t 0 rfl) .nil))) rfl) (fun w hA => Share_calls w ca cc (c) a9 c10 (r7.1) a11 c12 (r7.2) (hA.okO 0 rfl) cl (hA.okG 1 rfl (by decide) (fun _ => rfl)) (hA.leG 1 rfl) (hA.okG 2 rfl (by decide) (fun _ => rfl)) (hA.leG 2 rfl) hr59) ?_  -- 10:3 outright.go:210
      rintro ⟨a60, c61⟩ _
      refine J.q rfl rfl rfl rfl (Q.move (.t 0 rfl)) ?_  -- 10:4 outright.go:210
      refine J.q rfl rfl rfl rfl (Q.extract (.t 0 rfl) rfl) ?_  -- 10:5 outright.go:210
      refine J.q rfl rfl rfl rfl (Q.extract (.t 1 rfl) rfl) ?_  -- 10:6 outright.go:210
      refine J.q rfl rfl rfl rfl (Q.assign (.t 1 rfl)) ?_  -- 10:7 outright.go:210
      refine J.q rfl rfl rfl rfl (Q.assign (.t 1 rfl)) ?_  -- 10:8 outright.go:210
      refine J.end_ ?_
      refine C.keep (.cons 0 rfl (.cons 1 rfl (.cons 9 rfl (.cons 10 rfl (.cons 11 rfl (.cons 12 rfl (.cons 13 rfl (.cons 14 rfl .nil)))))))) ?_
      refine C.seq ?_
      obtain ⟨r62, hr63, H⟩ := bd_some H
      refine C.reg ?_
      refine J.q rfl rfl rfl rfl (Q.loadsV (.t 5 rfl) ⟨Try.isAgg26, Try.sizeOf26⟩ (ldT 3 4 rfl (.cons (.cons (.cons .nil)))) rfl) ?_  -- 11:0 outright.go:211
      refine J.q rfl rfl rfl rfl (Q.move (.t 3 rfl)) ?_  -- 11:1 outright.go:211
      refine J.q rfl rfl rfl rfl (Q.move (.t 5 rfl)) ?_  -- 11:2 outright.go:211
      refine J.callN rfl rfl rfl rfl (run_static Try.call9 .f (.cons (.t 2 rfl) (.cons (.t 1 rfl) (.cons (.t 0 rfl) .nil))) rfl) (fun w hA => Share_calls w ca cc (c) a36 c37 (v35) a11 c12 (r7.2) (hA.okO 0 rfl) cl (hA.okG 1 rfl (by decide) (fun _ => rfl)) (hA.leG 1 rfl) (hA.okG 3 rfl (by decide) (fun _ => rfl)) (hA.leG 3 rfl) hr63) ?_  -- 11:3 outright.go:211
      rintro ⟨a64, c65⟩ _
      refine J.q rfl rfl rfl rfl (Q.move (.t 0 rfl)) ?_  -- 11:4 outright.go:211
      refine J.q rfl rfl rfl rfl (Q.extract (.t 0 rfl) rfl) ?_  -- 11:5 outright.go:211
      refine J.q rfl rfl rfl rfl (Q.extract (.t 1 rfl) rfl) ?_  -- 11:6 outright.go:211
      refine J.q rfl rfl rfl rfl (Q.assign (.t 1 rfl)) ?_  -- 11:7 outright.go:211
      refine J.q rfl rfl rfl rfl (Q.assign (.t 1 rfl)) ?_  -- 11:8 outright.go:211
      refine J.end_ ?_
      refine C.keep (.cons 0 rfl (.cons 1 rfl (.cons 9 rfl (.cons 10 rfl (.cons 12 rfl (.cons 13 rfl (.cons 14 rfl (.cons 15 rfl (.cons 16 rfl .nil))))))))) ?_
      refine C.seq ?_
      refine C.reg ?_
      refine J.q rfl rfl rfl rfl (Q.loadsV (.t 6 rfl) ⟨Try.isAgg26, Try.sizeOf26⟩ (ldT 3 5 rfl (.cons (.cons (.cons .nil)))) rfl) ?_  -- 12:0 outright.go:212
      refine J.alloc rfl rfl rfl rfl (vs := (Cable.cells (⟨(⟨(0 : Int), (0 : Int)⟩ : Span), ([] : (List Nd))⟩ : Cable) none 0)) Try.zeroValue26 rfl ?_; intro b66 _  -- 12:1 outright.go:212
      refine J.s rfl rfl rfl (S.storeP (vs := (Cable.cells c ca cc)) (l' := (Cable.cells c ca cc)) (.t 0 rfl) (.t 1 rfl) Try.sizeOf26 rfl rfl (Ones.all (.cons rfl (.cons rfl (.cons rfl .nil)))) .here (.cons (.cons (.cons .nil)))) ?_  -- 12:2 outright.go:212
      refine J.end_ ?_
      refine C.keep (.cons 0 rfl (.cons 2 rfl (.cons 3 rfl (.cons 4 rfl (.cons 5 rfl (.cons 6 rfl (.cons 7 rfl (.cons 8 rfl (.cons 9 rfl (.cons 10 rfl .nil)))))))))) ?_
      refine C.seq ?_
      obtain ⟨h68, H⟩ := ck_some H
      refine C.reg ?_
      refine J.litE (enc := Nd.enc) (sz := 8) rfl rfl rfl rfl Try.underlying24 inf40 ?_; intro b67  -- 13:0 outright.go:213
      refine J.q rfl rfl rfl rfl (Q.fa0 2 Try.underlying26 rfl Try.sizeOf24 rfl rfl (.t 8 rfl)) ?_  -- 13:1 outright.go:213
      refine J.q rfl rfl rfl rfl (Q.load (.t 0 rfl) Try.isAgg24 (ldT 1 7 rfl (.skip (.skip (.cons .nil))))) ?_  -- 13:2 outright.go:213
      refine J.app (enc := Nd.enc) (xs := ([] : List Nd)) (ys := c.nodes) (Mn := fun a69 c70 => [rowG 40 8 a69 (([] : List Nd) ++ c.nodes).length c70 ((([] : List Nd) ++ c.nodes).flatMap Nd.enc), bx b66 26 (Cable.cells c ca cc), rowG 2 1 a64 r62.1.length c65 (r62.1.flatMap enI), rowG 2 1 a60 r58.1.length c61 (r58.1.flatMap enI), rowG 2 1 a36 v35.length c37 (v35.flatMap enI), rowG 2 1 a9 r7.1.length c10 (r7.1.flatMap enI), rowG 3 1 a11 r7.2.length c12 (r7.2.flatMap enI), bx b1 26 (Cable.cells c ca cc)]) rfl rfl rfl rfl Try.underlying24 inf40 rfl (by decide) (fun _ => rfl) (fun _ => (Ones.all (.cons rfl (.cons rfl (.cons rfl (.cons rfl (.cons rfl (.cons rfl (.cons rfl (.cons rfl .nil)))))))))) (by decide) (.t 2 rfl) (.t 0 rfl) (fun w hA => (hA.okO 0 rfl)) rfl rfl h68 (fun _ _ => .here) ?_; intro a69 c70  -- 13:3 outright.go:213
      refine J.q rfl rfl rfl rfl (Q.fa0 2 Try.underlying26 rfl Try.sizeOf24 rfl rfl (.t 4 rfl)) ?_  -- 13:4 outright.go:213
      refine J.s rfl rfl rfl (S.storeP (vs := [Value.slice a69 (([] : List Nd) ++ c.nodes).length c70]) (l' := (Cable.cells { c with nodes := (([] : List Nd) ++ c.nodes) } a69 c70)) (.t 0 rfl) (.t 1 rfl) Try.sizeOf24 rfl rfl (Ones.all (.cons rfl .nil)) (.there .here) (.skip (.skip (.cons .nil)))) ?_  -- 13:5 outright.go:213
      refine J.end_ ?_
      refine C.keep (.cons 5 rfl (.cons 6 rfl (.cons 7 rfl (.cons 8 rfl (.cons 9 rfl (.cons 10 rfl (.cons 11 rfl (.cons 13 rfl (.cons 14 rfl .nil))))))))) ?_
      refine C.seq ?_
      refine C.seq ?_
      refine C.reg ?_
      refine J.q rfl rfl rfl rfl (Q.assign .c) ?_  -- 14:0 outright.go:214
      refine J.end_ ?_
      refine C.block ?_
      obtain ⟨t85, ht86, H⟩ := bd_some H
      refine C.it_1 (fun s r => Value.int .i64 s.1) (fun s r => St w no [rowG 40 8 r.1 s.2.nodes.length r.2 (s.2.nodes.flatMap Nd.enc), bx b66 26 (Cable.cells s.2 r.1 r.2), rowG 2 1 a64 r62.1.length c65 (r62.1.flatMap enI), rowG 2 1 a60 r58.1.length c61 (r58.1.flatMap enI), rowG 2 1 a9 r7.1.length c10 (r7.1.flatMap enI), rowG 3 1 a11 r7.2.length c12 (r7.2.flatMap enI)] [rowO ca 8 Nd.enc c.nodes, rowO qa 1 (enK .u16) q, rowO q2a 1 (enK .u16) q2, rowO ka 1 (enK .u8) k]) ((0 : Int), { c with nodes := (([] : List Nd) ++ c.nodes) }) (a69, c70) ht86 rfl (fun _ h => h.to (.cons .here (.cons .here (.cons .here (.cons .here (.cons (.there .here) (.cons (.there .here) .drop))))))) ?_
      rintro ⟨v81, v82⟩ ⟨a83, c84⟩ o87 H89 ho88
      try dsimp only at H89 ⊢
      refine C.seq ?_
      refine C.seq ?_
      refine C.reg ?_
      refine J.q rfl rfl rfl rfl (Q.move (.t 0 rfl)) ?_  -- 15:0 outright.go:214
      refine J.q rfl rfl rfl rfl (Q.fa0 2 Try.underlying26 rfl Try.sizeOf24 rfl rfl (.t 2 rfl)) ?_  -- 15:1 outright.go:214
      refine J.q rfl rfl rfl rfl (Q.load (.t 0 rfl) Try.isAgg24 (ldT 1 1 rfl (.skip (.skip (.cons .nil))))) ?_  -- 15:2 outright.go:214
      refine J.q rfl rfl rfl rfl (Q.len Try.underlying24 (.t 0 rfl)) ?_  -- 15:3 outright.go:214
      refine J.q rfl rfl rfl rfl (Q.lss (.t 3 rfl) (.t 0 rfl)) ?_  -- 15:4 outright.go:214
      refine J.end_ ?_
      refine C.keep (.cons 0 rfl (.cons 5 rfl (.cons 6 rfl (.cons 7 rfl (.cons 8 rfl (.cons 9 rfl (.cons 10 rfl (.cons 11 rfl (.cons 12 rfl (.cons 13 rfl (.cons 14 rfl .nil))))))))))) ?_
      refine C.cond (.t 0 rfl) (fun c90 => ?_) (fun c90 => ?_)
      ·
        replace H89 := sel_t c90 H89
        refine C.skip ?_
        refine X.go ?_
        refine C.keep (.cons 1 rfl (.cons 2 rfl (.cons 3 rfl (.cons 4 rfl (.cons 5 rfl (.cons 6 rfl (.cons 7 rfl (.cons 8 rfl (.cons 9 rfl (.cons 10 rfl .nil)))))))))) ?_
        refine C.seq ?_
        refine C.block ?_
        obtain ⟨x91, hx92, hi93, H89⟩ := ix_some H89
        obtain ⟨h94, H89⟩ := ck_some H89
        obtain ⟨h95, H89⟩ := ck_some H89
        obtain ⟨x96, hx97, hi98, H89⟩ := ix_some H89
        refine C.drawS ?_
        refine JC.q 0 rfl rfl rfl rfl (Q.fa0 2 Try.underlying26 rfl Try.sizeOf24 rfl rfl (.t 1 rfl)) ?_  -- 17:0 outright.go:215
        refine JC.q 1 rfl rfl rfl rfl (Q.load (.t 0 rfl) Try.isAgg24 (ldT 1 1 rfl (.skip (.skip (.cons .nil))))) ?_  -- 17:1 outright.go:215
        refine JC.q 2 rfl rfl rfl rfl (Q.move (.t 2 rfl)) ?_  -- 17:2 outright.go:215
        refine JC.q 3 rfl rfl rfl rfl (Q.fa0 2 Try.underlying26 rfl Try.sizeOf24 rfl rfl (.t 4 rfl)) ?_  -- 17:3 outright.go:215
        refine JC.q 4 rfl rfl rfl rfl (Q.load (.t 0 rfl) Try.isAgg24 (ldT 1 1 rfl (.skip (.skip (.cons .nil))))) ?_  -- 17:4 outright.go:215
        refine JC.q 5 rfl rfl rfl rfl (Q.move (.t 5 rfl)) ?_  -- 17:5 outright.go:215
        refine JC.q 6 rfl rfl rfl rfl (Q.ixG 0 rfl Try.underlying24 Try.sizeOf40 (.t 1 rfl) (.t 0 rfl) hi93) ?_  -- 17:6 outright.go:215
        refine JC.q 7 rfl rfl rfl rfl (Q.fa 3 Try.underlying40 rfl Try.sizeOf2 rfl rfl (.t 0 rfl)) ?_  -- 17:7 outright.go:215
        refine JC.q 8 rfl rfl rfl rfl (Q.load (.t 0 rfl) Try.isAgg2 (ldGa (sz := 8) (enc := Nd.enc) 1 0 rfl (by decide) (fun _ => rfl) hx92 (.skip (.skip (.skip (.cons .nil)))))) ?_  -- 17:8 outright.go:215
        refine JC.q 9 rfl rfl rfl rfl (Q.move (.t 18 rfl)) ?_  -- 17:9 outright.go:215
        refine JC.q 10 rfl rfl rfl rfl (Q.conv Try.underlying29 Try.underlying2 (.t 0 rfl) h94) ?_  -- 17:10 outright.go:215
        refine JC.q 11 rfl rfl rfl rfl (Q.add (.t 2 rfl) (.t 0 rfl) h95) ?_  -- 17:11 outright.go:215
        refine JC.q 12 rfl rfl rfl rfl (Q.min2 .c (.t 0 rfl)) ?_  -- 17:12 outright.go:215
        refine JC.q 13 rfl rfl rfl rfl (Q.ixG 0 rfl Try.underlying24 Try.sizeOf40 (.t 11 rfl) (.t 10 rfl) hi98) ?_  -- 17:13 outright.go:215
        refine JC.q 14 rfl rfl rfl rfl (Q.fa 3 Try.underlying40 rfl Try.sizeOf2 rfl rfl (.t 0 rfl)) ?_  -- 17:14 outright.go:215
        refine JC.tail [0, 1, 0, 0, 8, 0, 56, 120, 248, 0, 512, 2040, 4088, 8191, 16383, 32767] 1 mixed (by kernel_rfl) (by kernel_rfl) (fun _ h => h) ?_
        refine JT.pick [15] (by kernel_rfl) (.cons (DStep.of rfl ?_) .nil)
        refine J.s rfl rfl rfl (S.storeL (enc := Nd.enc) (u' := { x96 with limit := (min (3932160 : Int) (x91.limit + more)) }) (vs := [Value.int .i64 (min (3932160 : Int) (x91.limit + more))]) (.t 0 rfl) (.t 2 rfl) Try.sizeOf2 (fun _ => rfl) rfl rfl (Ones.all (.cons rfl .nil)) hx97 (.skip (.skip (.skip (.cons .nil)))) .here) ?_  -- 17:15 outright.go:215
        refine J.keep (L' := [(108, _), (107, _), (106, _), (105, _), (104, _), (103, _), (102, _), (101, _), (100, _), (99, _), (98, Value.slice a83 (v82.nodes.set (Int.toNat v81) { x96 with limit := (min (3932160 : Int) (x91.limit + more)) }).length c84), (97, _), (96, _), (95, Value.slice a83 (v82.nodes.set (Int.toNat v81) { x96 with limit := (min (3932160 : Int) (x91.limit + more)) }).length c84), (94, _), (23, _), (22, _), (21, _), (20, _), (19, _), (18, _), (14, _), (13, _), (4, _), (5, _)]) (.cons 0 rfl (.cons 1 rfl (.cons 2 rfl (.cons 3 rfl (.cons 4 rfl (.cons 5 rfl (.cons 6 rfl (.cons 7 rfl (.cons 8 rfl (.cons 9 rfl (.cons 10 sl_set (.cons 11 rfl (.cons 12 rfl (.cons 13 sl_set (.cons 14 rfl (.cons 15 rfl (.cons 16 rfl (.cons 17 rfl (.cons 18 rfl (.cons 19 rfl (.cons 20 rfl (.cons 21 rfl (.cons 22 rfl (.cons 23 rfl (.cons 24 rfl .nil))))))))))))))))))))))))) ?_
        refine J.conseq (A' := St w no [rowG 40 8 a83 (v82.nodes.set (Int.toNat v81) { x96 with limit := (min (3932160 : Int) (x91.limit + more)) }).length c84 ((v82.nodes.set (Int.toNat v81) { x96 with limit := (min (3932160 : Int) (x91.limit + more)) }).flatMap Nd.enc), bx b66 26 (Cable.cells { v82 with nodes := (v82.nodes.set (Int.toNat v81) { x96 with limit := (min (3932160 : Int) (x91.limit + more)) }) } a83 c84), rowG 2 1 a64 r62.1.length c65 (r62.1.flatMap enI), rowG 2 1 a60 r58.1.length c61 (r58.1.flatMap enI), rowG 2 1 a9 r7.1.length c10 (r7.1.flatMap enI), rowG 3 1 a11 r7.2.length c12 (r7.2.flatMap enI)] [rowO ca 8 Nd.enc c.nodes, rowO qa 1 (enK .u16) q, rowO q2a 1 (enK .u16) q2, rowO ka 1 (enK .u8) k]) (fun _ h => by simpa only [Cable.cells, List.length_set] using h) ?_
        refine J.finF rfl rfl ?_
        refine JT.end_ ?_
        refine X.inNormal ?_
        refine X.go ?_
        refine C.keep (.cons 15 rfl (.cons 16 rfl (.cons 17 rfl (.cons 18 rfl (.cons 19 rfl (.cons 20 rfl (.cons 21 rfl (.cons 22 rfl (.cons 23 rfl (.cons 24 rfl .nil)))))))))) ?_
        obtain ⟨h99, H89⟩ := ck_some H89
        refine C.reg ?_
        refine J.q rfl rfl rfl rfl (Q.move (.t 0 rfl)) ?_  -- 16:0 outright.go:214
        refine J.q rfl rfl rfl rfl (Q.add (.t 0 rfl) .c h99) ?_  -- 16:1 outright.go:214
        refine J.keep (.cons 0 rfl (.cons 1 rfl (.cons 3 rfl (.cons 4 rfl (.cons 5 rfl (.cons 6 rfl (.cons 7 rfl (.cons 8 rfl (.cons 9 rfl (.cons 10 rfl (.cons 11 rfl .nil))))))))))) ?_
        refine J.q rfl rfl rfl rfl (Q.assign (.t 0 rfl)) ?_  -- 16:2 outright.go:214
        refine J.done ?_
        obtain rfl := Option.some.inj H89
        exact X.nxi ((v81 + (1 : Int)), { v82 with nodes := (v82.nodes.set (Int.toNat v81) { x96 with limit := (min (3932160 : Int) (x91.limit + more)) }) }) (a83, c84) ho88 (.cons 0 rfl (.cons 3 rfl (.cons 4 rfl (.cons 5 rfl (.cons 6 rfl (.cons 7 rfl (.cons 8 rfl (.cons 9 rfl (.cons 10 rfl (.cons 11 rfl .nil)))))))))) (fun _ h => h)
      ·
        replace H89 := sel_f c90 H89
        refine C.exit ?_
        refine X.thenExit ?_
        obtain rfl := Option.some.inj H89
        obtain rfl : (v81, v82) = t85 := ho88
        try dsimp only at H
        refine X.thenExit ?_
        refine X.inHit ?_
        refine X.go ?_
        refine C.keep (.cons 2 rfl (.cons 3 rfl (.cons 4 rfl (.cons 5 rfl (.cons 6 rfl (.cons 7 rfl (.cons 8 rfl (.cons 9 rfl .nil)))))))) ?_
        refine C.seq ?_
        obtain ⟨r100, hr101, H⟩ := bd_some H
        refine C.reg ?_
        refine J.q rfl rfl rfl rfl (Q.loadsV (.t 0 rfl) ⟨Try.isAgg26, Try.sizeOf26⟩ (ldT 3 1 rfl (.cons (.cons (.cons .nil)))) rfl) ?_  -- 18:0 outright.go:217
        refine J.q rfl rfl rfl rfl (Q.move (.t 7 rfl)) ?_  -- 18:1 outright.go:217
        refine J.q rfl rfl rfl rfl (Q.move (.t 7 rfl)) ?_  -- 18:2 outright.go:217
        refine J.callN rfl rfl rfl rfl (run_static Try.call9 .f (.cons (.t 2 rfl) (.cons (.t 1 rfl) (.cons (.t 0 rfl) .nil))) rfl) (fun w hA => Share_calls w a83 c84 (v82) a9 c10 (r7.1) a11 c12 (r7.2) (hA.okG 0 rfl (by decide) (fun _ => rfl)) (hA.leG 0 rfl) (hA.okG 4 rfl (by decide) (fun _ => rfl)) (hA.leG 4 rfl) (hA.okG 5 rfl (by decide) (fun _ => rfl)) (hA.leG 5 rfl) hr101) ?_  -- 18:3 outright.go:217
        rintro ⟨a102, c103⟩ _
        refine J.q rfl rfl rfl rfl (Q.move (.t 0 rfl)) ?_  -- 18:4 outright.go:217
        refine J.q rfl rfl rfl rfl (Q.extract (.t 0 rfl) rfl) ?_  -- 18:5 outright.go:217
        refine J.q rfl rfl rfl rfl (Q.extract (.t 1 rfl) rfl) ?_  -- 18:6 outright.go:217
        refine J.q rfl rfl rfl rfl (Q.assign (.t 1 rfl)) ?_  -- 18:7 outright.go:217
        refine J.q rfl rfl rfl rfl (Q.assign (.t 1 rfl)) ?_  -- 18:8 outright.go:217
        refine J.end_ ?_
        refine C.keep (.cons 0 rfl (.cons 1 rfl (.cons 10 rfl (.cons 11 rfl (.cons 12 rfl (.cons 13 rfl (.cons 14 rfl (.cons 15 rfl (.cons 16 rfl .nil))))))))) ?_
        refine C.seq ?_
        refine C.seq ?_
        refine C.reg ?_
        refine J.q rfl rfl rfl rfl (Q.move (.t 4 rfl)) ?_  -- 19:0 outright.go:218
        refine J.q rfl rfl rfl rfl (Q.neq (.t 0 rfl) .c) ?_  -- 19:1 outright.go:218
        refine J.q rfl rfl rfl rfl (Q.move (.t 0 rfl)) ?_  -- 19:2 outright.go:218
        refine J.gQ (Gd.one rfl rfl rfl (.t 0 rfl)) rfl rfl rfl (.p 5 rfl .nil) (fun hg => (Q.move (.t 0 rfl))) ?_  -- 19:3 outright.go:218
        refine J.gQ (Gd.one rfl rfl rfl (.t 1 rfl)) rfl rfl rfl (.g 0 rfl .nil) (fun hg => (Q.neq (.t 0 rfl) .c)) ?_  -- 19:4 outright.go:218
        refine J.q rfl rfl rfl rfl (Q.or_ (.t 2 rfl) (.t 0 rfl)) ?_  -- 19:5 outright.go:218
        refine J.q rfl rfl rfl rfl (Q.move (.t 0 rfl)) ?_  -- 19:6 outright.go:218
        refine J.gQ (Gd.one rfl rfl rfl (.t 0 rfl)) rfl rfl rfl (.p 7 rfl .nil) (fun hg => (Q.move (.t 0 rfl))) ?_  -- 19:7 outright.go:218
        refine J.gQ (Gd.one rfl rfl rfl (.t 1 rfl)) rfl rfl rfl (.g 0 rfl .nil) (fun hg => (Q.neq (.t 0 rfl) .c)) ?_  -- 19:8 outright.go:218
        refine J.q rfl rfl rfl rfl (Q.or_ (.t 2 rfl) (.t 0 rfl)) ?_  -- 19:9 outright.go:218
        refine J.q rfl rfl rfl rfl (Q.move (.t 0 rfl)) ?_  -- 19:10 outright.go:218
        refine J.gQ (Gd.one rfl rfl rfl (.t 0 rfl)) rfl rfl rfl (.p 16 rfl .nil) (fun hg => (Q.move (.t 0 rfl))) ?_  -- 19:11 outright.go:218
        refine J.gQ (Gd.one rfl rfl rfl (.t 1 rfl)) rfl rfl rfl (.g 0 rfl .nil) (fun hg => (Q.len Try.underlying32 (.t 0 rfl))) ?_  -- 19:12 outright.go:218
        refine J.gQ (Gd.one rfl rfl rfl (.t 2 rfl)) rfl rfl rfl (.p 20 rfl .nil) (fun hg => (Q.move (.t 0 rfl))) ?_  -- 19:13 outright.go:218
        refine J.gQ (Gd.one rfl rfl rfl (.t 3 rfl)) rfl rfl rfl (.g 0 rfl .nil) (fun hg => (Q.len Try.underlying32 (.t 0 rfl))) ?_  -- 19:14 outright.go:218
        refine J.gQ (Gd.one rfl rfl rfl (.t 4 rfl)) rfl rfl rfl (.g 2 rfl (.g 0 rfl .nil)) (fun hg => (Q.neq (.t 0 rfl) (.t 1 rfl))) ?_  -- 19:15 outright.go:218
        refine J.q rfl rfl rfl rfl (Q.or_ (.t 5 rfl) (.t 0 rfl)) ?_  -- 19:16 outright.go:218
        refine J.q rfl rfl rfl rfl (Q.move (.t 0 rfl)) ?_  -- 19:17 outright.go:218
        refine J.gQ (Gd.one rfl rfl rfl (.t 0 rfl)) rfl rfl rfl (.p 21 rfl .nil) (fun hg => (Q.move (.t 0 rfl))) ?_  -- 19:18 outright.go:218
        refine J.gQ (Gd.one rfl rfl rfl (.t 1 rfl)) rfl rfl rfl (.g 0 rfl .nil) (fun hg => (Q.len Try.underlying32 (.t 0 rfl))) ?_  -- 19:19 outright.go:218
        refine J.gQ (Gd.one rfl rfl rfl (.t 2 rfl)) rfl rfl rfl (.p 27 rfl .nil) (fun hg => (Q.move (.t 0 rfl))) ?_  -- 19:20 outright.go:218
        refine J.gQ (Gd.one rfl rfl rfl (.t 3 rfl)) rfl rfl rfl (.g 0 rfl .nil) (fun hg => (Q.len Try.underlying32 (.t 0 rfl))) ?_  -- 19:21 outright.go:218
        refine J.gQ (Gd.one rfl rfl rfl (.t 4 rfl)) rfl rfl rfl (.g 2 rfl (.g 0 rfl .nil)) (fun hg => (Q.neq (.t 0 rfl) (.t 1 rfl))) ?_  -- 19:22 outright.go:218
        refine J.q rfl rfl rfl rfl (Q.or_ (.t 5 rfl) (.t 0 rfl)) ?_  -- 19:23 outright.go:218
        refine J.q rfl rfl rfl rfl (Q.move (.t 0 rfl)) ?_  -- 19:24 outright.go:218
        refine J.gQ (Gd.one rfl rfl rfl (.t 0 rfl)) rfl rfl rfl (.p 26 rfl .nil) (fun hg => (Q.move (.t 0 rfl))) ?_  -- 19:25 outright.go:218
        refine J.gQ (Gd.one rfl rfl rfl (.t 1 rfl)) rfl rfl rfl (.g 0 rfl .nil) (fun hg => (Q.len Try.underlying32 (.t 0 rfl))) ?_  -- 19:26 outright.go:218
        refine J.gQ (Gd.one rfl rfl rfl (.t 2 rfl)) rfl rfl rfl (.p 34 rfl .nil) (fun hg => (Q.move (.t 0 rfl))) ?_  -- 19:27 outright.go:218
        refine J.gQ (Gd.one rfl rfl rfl (.t 3 rfl)) rfl rfl rfl (.g 0 rfl .nil) (fun hg => (Q.len Try.underlying32 (.t 0 rfl))) ?_  -- 19:28 outright.go:218
        refine J.gQ (Gd.one rfl rfl rfl (.t 4 rfl)) rfl rfl rfl (.g 2 rfl (.g 0 rfl .nil)) (fun hg => (Q.neq (.t 0 rfl) (.t 1 rfl))) ?_  -- 19:29 outright.go:218
        refine J.q rfl rfl rfl rfl (Q.or_ (.t 5 rfl) (.t 0 rfl)) ?_  -- 19:30 outright.go:218
        refine J.end_ ?_
        refine C.keep (.cons 0 rfl (.cons 32 rfl (.cons 34 rfl (.cons 36 rfl (.cons 37 rfl (.cons 38 rfl (.cons 39 rfl .nil))))))) ?_
        refine C.cond (.t 0 rfl) (fun c104 => ?_) (fun c104 => ?_)
        ·
          replace H := sel_t c104 H
          refine C.seq ?_
          refine C.reg ?_
          refine J.q rfl rfl rfl rfl (Q.assign .c) ?_  -- 20:0 outright.go:219
          refine J.end_ ?_
          refine C.keep (.cons 0 rfl .nil) ?_
          refine C.ret ?_
          refine X.thenRet ?_
          obtain rfl := Option.some.inj H
          refine X.rets (vs := [Value.bool false]) rfl (.t 0 rfl .nil) (fun w' hA => ?_)
          exact PostV.of hA
        ·
          replace H := sel_f c104 H
          refine C.skip ?_
          refine X.go ?_
          refine C.keep (.cons 1 rfl (.cons 2 rfl (.cons 3 rfl (.cons 4 rfl (.cons 5 rfl (.cons 6 rfl .nil)))))) ?_
          refine C.seq ?_
          obtain ⟨r105, hr106, H⟩ := bd_some H
          obtain ⟨x109, hx110, hi111, H⟩ := ix_some H
          refine C.reg ?_
          refine J.q rfl rfl rfl rfl (Q.move (.t 3 rfl)) ?_  -- 21:0 outright.go:221
          refine J.callN rfl rfl rfl rfl (run_static Try.call10 .f (.cons (.t 0 rfl) .nil) rfl) (fun w hA => rOrder_calls w a11 c12 (r7.2) (hA.okG 6 rfl (by decide) (fun _ => rfl)) (hA.leG 6 rfl) hr106) ?_  -- 21:1 outright.go:221
          rintro ⟨a107, c108⟩ _
          refine J.q rfl rfl rfl rfl (Q.ixG 0 rfl Try.underlying33 Try.sizeOf3 (.t 0 rfl) .c hi111) ?_  -- 21:2 outright.go:221
          refine J.q rfl rfl rfl rfl (Q.load (.t 0 rfl) Try.isAgg3 (ldGa0 (sz := 1) (enc := enI) 1 0 rfl (by decide) (fun _ => rfl) hx110 (.cons .nil))) ?_  -- 21:3 outright.go:221
          refine J.q rfl rfl rfl rfl (Q.assign (.t 0 rfl)) ?_  -- 21:4 outright.go:221
          refine J.end_ ?_
          refine C.keep (.cons 0 rfl (.cons 5 rfl (.cons 6 rfl (.cons 7 rfl (.cons 8 rfl (.cons 9 rfl (.cons 10 rfl .nil))))))) ?_
          refine C.seq ?_
          refine C.seq ?_
          refine C.reg ?_
          refine J.q rfl rfl rfl rfl (Q.assign .c) ?_  -- 22:0 outright.go:222
          refine J.end_ ?_
          refine C.block ?_
          obtain ⟨t127, ht128, H⟩ := bd_some H
          refine C.it_1 (fun s r => Value.int .i64 s) (fun s r => St w no [rowG 2 1 a102 r100.1.length c103 (r100.1.flatMap enI), rowG 2 1 a64 r62.1.length c65 (r62.1.flatMap enI), rowG 2 1 a60 r58.1.length c61 (r58.1.flatMap enI), rowG 2 1 a9 r7.1.length c10 (r7.1.flatMap enI), rowG 3 1 a11 r7.2.length c12 (r7.2.flatMap enI)] [rowO ca 8 Nd.enc c.nodes, rowO qa 1 (enK .u16) q, rowO q2a 1 (enK .u16) q2, rowO ka 1 (enK .u8) k]) (0 : Int) () ht128 rfl (fun _ h => h.to (.cons (.there .here) (.cons (.there (.there (.there .here))) (.cons (.there (.there (.there .here))) (.cons (.there (.there (.there .here))) (.cons (.there (.there (.there .here))) .drop)))))) ?_
          rintro v126 ⟨⟩ o129 H131 ho130
          try dsimp only at H131 ⊢
          refine C.seq ?_
          refine C.seq ?_
          refine C.reg ?_
          refine J.q rfl rfl rfl rfl (Q.move (.t 0 rfl)) ?_  -- 23:0 outright.go:222
          refine J.q rfl rfl rfl rfl (Q.move (.t 7 rfl)) ?_  -- 23:1 outright.go:222
          refine J.q rfl rfl rfl rfl (Q.len Try.underlying32 (.t 0 rfl)) ?_  -- 23:2 outright.go:222
          refine J.q rfl rfl rfl rfl (Q.lss (.t 2 rfl) (.t 0 rfl)) ?_  -- 23:3 outright.go:222
          refine J.end_ ?_
          refine C.keep (.cons 0 rfl (.cons 4 rfl (.cons 5 rfl (.cons 6 rfl (.cons 7 rfl (.cons 8 rfl (.cons 9 rfl (.cons 10 rfl (.cons 11 rfl .nil))))))))) ?_
          refine C.cond (.t 0 rfl) (fun c132 => ?_) (fun c132 => ?_)
          ·
            replace H131 := sel_t c132 H131
            refine C.skip ?_
            refine X.go ?_
            refine C.keep (.cons 1 rfl (.cons 2 rfl (.cons 3 rfl (.cons 4 rfl (.cons 5 rfl (.cons 6 rfl (.cons 7 rfl (.cons 8 rfl .nil)))))))) ?_
            refine C.seq ?_
            refine C.block ?_
            refine C.seq ?_
            obtain ⟨x133, hx134, hi135, H131⟩ := ix_some H131
            obtain ⟨h136, H131⟩ := ck_some H131
            obtain ⟨h137, H131⟩ := ck_some H131
            obtain ⟨x138, hx139, hi140, H131⟩ := ixg_some H131
            obtain ⟨x141, hx142, hi143, H131⟩ := ixg_some H131
            refine C.drawS ?_
            refine JC.q 0 rfl rfl rfl rfl (Q.move (.t 5 rfl)) ?_  -- 25:0 outright.go:223
            refine JC.q 1 rfl rfl rfl rfl (Q.move (.t 1 rfl)) ?_  -- 25:1 outright.go:223
            refine JC.q 2 rfl rfl rfl rfl (Q.ixG 4 rfl Try.underlying33 Try.sizeOf3 (.t 1 rfl) (.t 0 rfl) hi135) ?_  -- 25:2 outright.go:223
            refine JC.q 3 rfl rfl rfl rfl (Q.load (.t 0 rfl) Try.isAgg3 (ldGa0 (sz := 1) (enc := enI) 1 4 rfl (by decide) (fun _ => rfl) hx134 (.cons .nil))) ?_  -- 25:3 outright.go:223
            refine JC.q 4 rfl rfl rfl rfl (Q.move (.t 11 rfl)) ?_  -- 25:4 outright.go:223
            refine JC.q 5 rfl rfl rfl rfl (Q.conv Try.underlying5 Try.underlying3 (.t 0 rfl) h136) ?_  -- 25:5 outright.go:223
            refine JC.q 6 rfl rfl rfl rfl (Q.remE (.t 0 rfl) .c h137) ?_  -- 25:6 outright.go:223
            refine JC.q 7 rfl rfl rfl rfl (Q.geq (.t 3 rfl) (.t 0 rfl)) ?_  -- 25:7 outright.go:223
            refine JC.q 8 rfl rfl rfl rfl (Q.move (.t 0 rfl)) ?_  -- 25:8 outright.go:223
            refine JC.gQ 9 rfl (Gd.one rfl rfl rfl (.t 0 rfl)) rfl rfl (.p 13 rfl .nil) (fun hg => (Q.move (.t 0 rfl))) ?_  -- 25:9 outright.go:223
            refine JC.gQ 10 rfl (Gd.one rfl rfl rfl (.t 1 rfl)) rfl rfl (.p 10 rfl .nil) (fun hg => (Q.move (.t 0 rfl))) ?_  -- 25:10 outright.go:223
            refine JC.gQ 11 rfl (Gd.one rfl rfl rfl (.t 2 rfl)) rfl rfl (.g 1 rfl (.g 0 rfl .nil)) (fun hg => (Q.ixG 2 rfl Try.underlying32 Try.sizeOf2 (.t 0 rfl) (.t 1 rfl) (hi140 hg))) ?_  -- 25:11 outright.go:223
            refine JC.gQ 12 rfl (Gd.one rfl rfl rfl (.t 3 rfl)) rfl rfl (.g 0 rfl .nil) (fun hg => (Q.load (.t 0 rfl) Try.isAgg2 (ldGa0 (sz := 1) (enc := enI) 1 2 rfl (by decide) (fun _ => rfl) (hx139 hg) (.cons .nil)))) ?_  -- 25:12 outright.go:223
            refine JC.gQ 13 rfl (Gd.one rfl rfl rfl (.t 4 rfl)) rfl rfl (.p 16 rfl .nil) (fun hg => (Q.move (.t 0 rfl))) ?_  -- 25:13 outright.go:223
            refine JC.gQ 14 rfl (Gd.one rfl rfl rfl (.t 5 rfl)) rfl rfl (.p 14 rfl .nil) (fun hg => (Q.move (.t 0 rfl))) ?_  -- 25:14 outright.go:223
            refine JC.gQ 15 rfl (Gd.one rfl rfl rfl (.t 6 rfl)) rfl rfl (.g 1 rfl (.g 0 rfl .nil)) (fun hg => (Q.ixG 1 rfl Try.underlying32 Try.sizeOf2 (.t 0 rfl) (.t 1 rfl) (hi143 hg))) ?_  -- 25:15 outright.go:223
            refine JC.gQ 16 rfl (Gd.one rfl rfl rfl (.t 7 rfl)) rfl rfl (.g 0 rfl .nil) (fun hg => (Q.load (.t 0 rfl) Try.isAgg2 (ldGa0 (sz := 1) (enc := enI) 1 1 rfl (by decide) (fun _ => rfl) (hx142 hg) (.cons .nil)))) ?_  -- 25:16 outright.go:223
            refine JC.gQ 17 rfl (Gd.one rfl rfl rfl (.t 8 rfl)) rfl rfl (.g 4 rfl (.g 0 rfl .nil)) (fun hg => (Q.neq (.t 0 rfl) (.t 1 rfl))) ?_  -- 25:17 outright.go:223
            refine JC.q 18 rfl rfl rfl rfl (Q.and_ (.t 9 rfl) (.t 0 rfl)) ?_  -- 25:18 outright.go:223
            refine JC.tail [0, 0, 3, 7, 0, 16, 48, 127, 255, 511, 511, 2047, 4095, 511, 511, 25087, 57855, 131071, 262143] 0 mixed (by kernel_rfl) (by kernel_rfl) (fun _ h => h) ?_
            refine JT.end_ ?_
            refine X.go ?_
            refine C.keep (.cons 0 rfl (.cons 19 rfl (.cons 20 rfl (.cons 21 rfl (.cons 22 rfl (.cons 23 rfl (.cons 24 rfl (.cons 25 rfl (.cons 26 rfl .nil))))))))) ?_
            refine C.cond (.t 0 rfl) (fun c144 => ?_) (fun c144 => ?_)
            ·
              replace H131 := sel_t c144 H131
              refine C.seq ?_
              refine C.reg ?_
              refine J.q rfl rfl rfl rfl (Q.assign .c) ?_  -- 26:0 outright.go:224
              refine J.end_ ?_
              refine C.keep (.cons 0 rfl .nil) ?_
              refine C.ret ?_
              refine X.inRet ?_
              refine X.thenRet ?_
              refine X.thenRet ?_
              obtain rfl := Option.some.inj H131
              obtain rfl := ho130
              try dsimp only [thn] at H
              refine X.inRet ?_
              refine X.thenRet ?_
              obtain rfl := Option.some.inj H
              refine X.rets (vs := [Value.bool false]) rfl (.t 0 rfl .nil) (fun w' hA => ?_)
              exact PostV.of hA
            ·
              replace H131 := sel_f c144 H131
              refine C.skip ?_
              refine X.inNormal ?_
              refine X.go ?_
              refine C.keep (.cons 1 rfl (.cons 2 rfl (.cons 3 rfl (.cons 4 rfl (.cons 5 rfl (.cons 6 rfl (.cons 7 rfl (.cons 8 rfl .nil)))))))) ?_
              obtain ⟨h146, H131⟩ := ck_some H131
              refine C.reg ?_
              refine J.q rfl rfl rfl rfl (Q.move (.t 0 rfl)) ?_  -- 24:0 outright.go:222
              refine J.q rfl rfl rfl rfl (Q.add (.t 0 rfl) .c h146) ?_  -- 24:1 outright.go:222
              refine J.keep (.cons 0 rfl (.cons 1 rfl (.cons 3 rfl (.cons 4 rfl (.cons 5 rfl (.cons 6 rfl (.cons 7 rfl (.cons 8 rfl (.cons 9 rfl .nil))))))))) ?_
              refine J.q rfl rfl rfl rfl (Q.assign (.t 0 rfl)) ?_  -- 24:2 outright.go:222
              refine J.done ?_
              obtain rfl := Option.some.inj H131
              exact X.nxi (v126 + (1 : Int)) () ho130 (.cons 0 rfl (.cons 3 rfl (.cons 4 rfl (.cons 5 rfl (.cons 6 rfl (.cons 7 rfl (.cons 8 rfl (.cons 9 rfl .nil)))))))) (fun _ h => h)
          ·
            replace H131 := sel_f c132 H131
            refine C.exit ?_
            refine X.thenExit ?_
            obtain rfl := Option.some.inj H131
            obtain rfl : (Sum.inl v126) = t127 := ho130
            try dsimp only [thn] at H
            refine X.thenExit ?_
            refine X.inHit ?_
            refine X.go ?_
            refine C.keep (.cons 2 rfl (.cons 3 rfl (.cons 5 rfl .nil))) ?_
            refine C.seq ?_
            obtain ⟨x147, hx148, hi149, H⟩ := ix_some H
            obtain ⟨x150, hx151, hi152, H⟩ := ix_some H
            obtain ⟨r153, hr154, H⟩ := bdg_some H
            refine C.drawS ?_
            refine JC.q 0 rfl rfl rfl rfl (Q.move (.t 1 rfl)) ?_  -- 27:0 outright.go:227
            refine JC.q 1 rfl rfl rfl rfl (Q.move (.t 1 rfl)) ?_  -- 27:1 outright.go:227
            refine JC.q 2 rfl rfl rfl rfl (Q.ixG 0 rfl Try.underlying32 Try.sizeOf2 (.t 1 rfl) (.t 0 rfl) hi149) ?_  -- 27:2 outright.go:227
            refine JC.q 3 rfl rfl rfl rfl (Q.load (.t 0 rfl) Try.isAgg2 (ldGa0 (sz := 1) (enc := enI) 1 0 rfl (by decide) (fun _ => rfl) hx148 (.cons .nil))) ?_  -- 27:3 outright.go:227
            refine JC.q 4 rfl rfl rfl rfl (Q.move (.t 6 rfl)) ?_  -- 27:4 outright.go:227
            refine JC.q 5 rfl rfl rfl rfl (Q.move (.t 5 rfl)) ?_  -- 27:5 outright.go:227
            refine JC.q 6 rfl rfl rfl rfl (Q.ixG 2 rfl Try.underlying32 Try.sizeOf2 (.t 1 rfl) (.t 0 rfl) hi152) ?_  -- 27:6 outright.go:227
            refine JC.q 7 rfl rfl rfl rfl (Q.load (.t 0 rfl) Try.isAgg2 (ldGa0 (sz := 1) (enc := enI) 1 2 rfl (by decide) (fun _ => rfl) hx151 (.cons .nil))) ?_  -- 27:7 outright.go:227
            refine JC.q 8 rfl rfl rfl rfl (Q.geq (.t 4 rfl) (.t 0 rfl)) ?_  -- 27:8 outright.go:227
            refine JC.q 9 rfl rfl rfl rfl (Q.move (.t 0 rfl)) ?_  -- 27:9 outright.go:227
            refine JC.gCall 10 rfl (Gd.one rfl rfl rfl (.t 0 rfl)) rfl rfl .nil (fun D => (run_static Try.call7 .f .nil rfl)) (fun hg w hA => fine_calls w   (hr154 hg)) ?_  -- 27:10 outright.go:227
            refine JC.q 11 rfl rfl rfl rfl (Q.and_ (.t 1 rfl) (.t 0 rfl)) ?_  -- 27:11 outright.go:227
            refine JC.q 12 rfl rfl rfl rfl (Q.assign (.t 0 rfl)) ?_  -- 27:12 outright.go:227
            refine JC.tail [0, 0, 3, 7, 0, 0, 48, 112, 255, 511, 1023, 2047, 4095] 0 mixed (by kernel_rfl) (by kernel_rfl) (fun _ h => h) ?_
            refine JT.end_ ?_
            refine X.go ?_
            refine C.keep (.cons 0 rfl .nil) ?_
            refine C.ret ?_
            obtain rfl := Option.some.inj H
            refine X.rets (vs := [Value.bool ((decide (x150 ≤ x147)) && r153)]) rfl (.t 0 rfl .nil) (fun w' hA => ?_)
            exact PostV.of hA

end Go.Proofs
