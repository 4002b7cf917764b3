/- cable: check cable: open cable: up cable: checkAmps cable: CheckShare cable: currents cable: voltages -/
import Derived.Test.YtafghgomhjeabaaC1
import Derived.Test.YtafghgomhjeabaaProg
set_option linter.unusedVariables false
set_option linter.unusedSimpArgs false
namespace Go.Proofs
open Go Go.J Go.RowKit Go.Cab
set_option maxRecDepth 4096
set_option linter.unusedSimpArgs false
set_option linter.unusedVariables false
theorem inf3 : Inf Try.prog 3 [.int .i64 0] 8 := ⟨Try.t3, .int .i64 0, by kernel_rfl, by kernel_rfl, rfl, rfl, rfl⟩
theorem inf23 : Inf Try.prog 23 [.int .i64 0, .int .i64 0] 16 := ⟨Try.t23, .agg #[.int .i64 0, .int .i64 0], by kernel_rfl, by kernel_rfl, rfl, rfl, rfl⟩
theorem mixed : Try.prog.follows .mixedOrders = true := by kernel_rfl
theorem stb23 : StB Try.prog 23 [.int .i64 0, .int .i64 0] [(0, 1), (1, 1)] := .struct Try.t23 (by kernel_rfl) (by kernel_rfl) Try.underlying23 (by kernel_rfl)
theorem guard23 : Try.prog.eqGuardType Try.prog.depth 23 = false := by kernel_rfl
theorem eqv23 (a b c d : Int) : Eqv Try.prog 2 23 (.agg [.int .i64 a, .int .i64 b].toArray) (.agg [.int .i64 c, .int .i64 d].toArray) (decide (a = c) && (decide (b = d) && true)) :=
  .struct Try.underlying23 (by kernel_rfl) rfl (.cons rfl (.one Try.isAgg2 rfl) (.one Try.isAgg2 rfl) (.int Try.underlying2) (.cons rfl (.one Try.isAgg2 rfl) (.one Try.isAgg2 rfl) (.int Try.underlying2) .nil))

theorem check_calls (w : World) (a : Option Addr) (c : Nat) (xs : List Span) (hr : (rowO a 2 Span.enc xs).ok w) (hn : xs.length < 9223372036854775807) :
    Calls Try.prog 91 [.slice a xs.length c].toArray w (PostV (.int .i64 (badAny xs)) w) := by
  refine Calls.enter Try.func91 rfl rfl rfl ?_
  refine C.conseq (A' := St w no [] [rowO a 2 Span.enc xs]) (fun _ e => by subst e; exact St.init _ _ (by simpa using hr)) ?_
  refine C.seq ?_
  refine C.reg ?_
  refine J.q rfl rfl rfl rfl (Q.assign .c) ?_  -- 0:0 bound.go:48 t2 assign
  refine J.end_ ?_
  refine C.keep (.cons 1 rfl .nil) ?_
  refine C.seq ?_
  refine C.seq ?_
  refine C.reg ?_
  refine J.q rfl rfl rfl rfl (Q.move (.t 0 rfl)) ?_  -- 1:0 bound.go:49 t5 move
  refine J.q rfl rfl rfl rfl (Q.len Try.underlying51 (.t 0 rfl)) ?_  -- 1:1 bound.go:49 t6 call
  refine J.q rfl rfl rfl rfl (Q.move .c) ?_  -- 1:2 bound.go:49 t7 move
  refine J.end_ ?_
  refine C.keep (.cons 0 rfl (.cons 1 rfl (.cons 2 rfl .nil))) ?_
  refine C.block ?_
  refine C.loop_1 (fun i => .int .i64 (i.1 : Int)) (G := { i : Nat // i ≤ xs.length ∧ ∀ s ∈ xs.take i, s.bad = false }) (fun i => St w no [] [rowO a 2 Span.enc xs]) (fun i => xs.length - i.1) (⟨0, by simp⟩) (by (first | rfl | (simp; done))) ?_ ?_
  ·
    (exact fun _ h => h)
  ·
    rintro ⟨i, hi, hgood⟩
    dsimp only
    refine C.seq ?_
    refine C.reg ?_
    refine J.q rfl rfl rfl rfl (Q.lss (.t 0 rfl) (.t 1 rfl)) ?_  -- 2:0 bound.go:49 t8 binOp
    refine J.end_ ?_
    refine C.seq ?_
    refine C.cond (.t 0 rfl) (fun c0 => ?_) (fun c0 => ?_)  -- cond 0
    ·
      simp only [decide_eq_true_eq, decide_eq_false_iff_not, Bool.and_eq_true, Bool.or_eq_true, Bool.and_eq_false_iff, Bool.or_eq_false_iff, Bool.not_eq_true', Bool.not_eq_false', beq_iff_eq, bne_iff_ne, Int.not_lt, Int.not_le, Decidable.not_not, ne_eq] at c0
      have hlt : i < xs.length := by omega
      obtain ⟨x, hx⟩ := get_lt hlt
      obtain ⟨b, o, rfl⟩ := rowO.addr hr.1 (by omega)
      refine C.skip ?_
      refine X.go ?_
      refine C.keep (.cons 1 rfl (.cons 2 rfl (.cons 3 rfl .nil))) ?_
      refine C.seq ?_
      refine C.block ?_
      refine C.seq ?_
      refine C.reg ?_
      refine J.q rfl rfl rfl rfl (Q.indexAddr Try.underlying51 Try.sizeOf23 (.t 2 rfl) (.t 0 rfl) (by omega)) ?_  -- 3:0 bound.go:49 t9 indexAddr
      refine J.q rfl rfl rfl rfl (Q.loadsV (.t 0 rfl) ⟨Try.isAgg23, Try.sizeOf23⟩ (by first | (first | exact ldT 2 0 rfl (by repeat constructor) | exact ldTΦ 2 0 rfl (by repeat constructor) | exact ldT 2 1 rfl (by repeat constructor) | exact ldTΦ 2 1 rfl (by repeat constructor) | exact ldT 2 2 rfl (by repeat constructor) | exact ldTΦ 2 2 rfl (by repeat constructor) | exact ldT 2 3 rfl (by repeat constructor) | exact ldTΦ 2 3 rfl (by repeat constructor) | exact ldT 2 4 rfl (by repeat constructor) | exact ldTΦ 2 4 rfl (by repeat constructor) | exact ldT 2 5 rfl (by repeat constructor) | exact ldTΦ 2 5 rfl (by repeat constructor) | exact ldT 2 6 rfl (by repeat constructor) | exact ldO 0 rfl (by assumption) | exact ldO 1 rfl (by assumption) | exact ldO 2 rfl (by assumption) | exact ldO 3 rfl (by assumption) | exact ldOT 2 0 rfl (by assumption) (by repeat constructor) | exact ldOT 2 1 rfl (by assumption) (by repeat constructor) | exact ldOT 2 2 rfl (by assumption) (by repeat constructor) | exact ldOT 2 3 rfl (by assumption) (by repeat constructor)) | (first | exact ldO1 0 rfl (by assumption) rfl | exact ldO1 1 rfl (by assumption) rfl | exact ldO1 2 rfl (by assumption) rfl | exact ldO1 3 rfl (by assumption) rfl | exact ldO1 4 rfl (by assumption) rfl | exact ldO1 5 rfl (by assumption) rfl | exact ldM1 0 rfl (fun _ => rfl) (by assumption) rfl | exact ldM1 1 rfl (fun _ => rfl) (by assumption) rfl | exact ldM1 2 rfl (fun _ => rfl) (by assumption) rfl | exact ldM1 3 rfl (fun _ => rfl) (by assumption) rfl | exact ldM1 4 rfl (fun _ => rfl) (by assumption) rfl | exact ldM1 5 rfl (fun _ => rfl) (by assumption) rfl)) rfl) ?_  -- 3:1 bound.go:49 t10 load
      refine J.alloc rfl rfl rfl rfl Try.zeroValue23 rfl ?_; intro b4 hb4  -- 3:2 bound.go:49 t4 alloc
      refine J.s rfl rfl rfl (S.storeP (.t 0 rfl) (.t 1 rfl) Try.sizeOf23 rfl rfl (by (first | exact Nd.enc_one _ | (first | exact Span.enc_one _ | ((intro u hu; simp at hu; first | done | ((repeat' (rcases hu with rfl | hu)) <;> (try subst hu) <;> rfl)))))) (by (repeat (first | exact Upd.here | apply Upd.there))) (by (repeat constructor); done)) ?_  -- 3:3 bound.go:49 tNone store
      refine J.end_ ?_
      refine C.keep (.cons 0 rfl (.cons 3 rfl (.cons 4 rfl (.cons 5 rfl .nil)))) ?_
      refine C.seq ?_
      refine C.reg ?_
      refine J.q rfl rfl rfl rfl (Q.fa0 0 Try.underlying23 rfl Try.sizeOf2 rfl rfl (.t 0 rfl)) ?_  -- 4:0 bound.go:50 t11 fieldAddr
      refine J.q rfl rfl rfl rfl (Q.load (.t 0 rfl) Try.isAgg2 (by first | (first | exact ldT 1 0 rfl (by repeat constructor) | exact ldTΦ 1 0 rfl (by repeat constructor) | exact ldT 1 1 rfl (by repeat constructor) | exact ldTΦ 1 1 rfl (by repeat constructor) | exact ldT 1 2 rfl (by repeat constructor) | exact ldTΦ 1 2 rfl (by repeat constructor) | exact ldT 1 3 rfl (by repeat constructor) | exact ldTΦ 1 3 rfl (by repeat constructor) | exact ldT 1 4 rfl (by repeat constructor) | exact ldTΦ 1 4 rfl (by repeat constructor) | exact ldT 1 5 rfl (by repeat constructor) | exact ldTΦ 1 5 rfl (by repeat constructor) | exact ldT 1 6 rfl (by repeat constructor) | exact ldO 0 rfl (by assumption) | exact ldO 1 rfl (by assumption) | exact ldO 2 rfl (by assumption) | exact ldO 3 rfl (by assumption) | exact ldOT 1 0 rfl (by assumption) (by repeat constructor) | exact ldOT 1 1 rfl (by assumption) (by repeat constructor) | exact ldOT 1 2 rfl (by assumption) (by repeat constructor) | exact ldOT 1 3 rfl (by assumption) (by repeat constructor)) | (first | exact ldO1 0 rfl (by assumption) rfl | exact ldO1 1 rfl (by assumption) rfl | exact ldO1 2 rfl (by assumption) rfl | exact ldO1 3 rfl (by assumption) rfl | exact ldO1 4 rfl (by assumption) rfl | exact ldO1 5 rfl (by assumption) rfl | exact ldM1 0 rfl (fun _ => rfl) (by assumption) rfl | exact ldM1 1 rfl (fun _ => rfl) (by assumption) rfl | exact ldM1 2 rfl (fun _ => rfl) (by assumption) rfl | exact ldM1 3 rfl (fun _ => rfl) (by assumption) rfl | exact ldM1 4 rfl (fun _ => rfl) (by assumption) rfl | exact ldM1 5 rfl (fun _ => rfl) (by assumption) rfl))) ?_  -- 4:1 bound.go:50 t12 load
      refine J.q rfl rfl rfl rfl (Q.fa0 1 Try.underlying23 rfl Try.sizeOf2 rfl rfl (.t 2 rfl)) ?_  -- 4:2 bound.go:50 t13 fieldAddr
      refine J.q rfl rfl rfl rfl (Q.load (.t 0 rfl) Try.isAgg2 (by first | (first | exact ldT 1 0 rfl (by repeat constructor) | exact ldTΦ 1 0 rfl (by repeat constructor) | exact ldT 1 1 rfl (by repeat constructor) | exact ldTΦ 1 1 rfl (by repeat constructor) | exact ldT 1 2 rfl (by repeat constructor) | exact ldTΦ 1 2 rfl (by repeat constructor) | exact ldT 1 3 rfl (by repeat constructor) | exact ldTΦ 1 3 rfl (by repeat constructor) | exact ldT 1 4 rfl (by repeat constructor) | exact ldTΦ 1 4 rfl (by repeat constructor) | exact ldT 1 5 rfl (by repeat constructor) | exact ldTΦ 1 5 rfl (by repeat constructor) | exact ldT 1 6 rfl (by repeat constructor) | exact ldO 0 rfl (by assumption) | exact ldO 1 rfl (by assumption) | exact ldO 2 rfl (by assumption) | exact ldO 3 rfl (by assumption) | exact ldOT 1 0 rfl (by assumption) (by repeat constructor) | exact ldOT 1 1 rfl (by assumption) (by repeat constructor) | exact ldOT 1 2 rfl (by assumption) (by repeat constructor) | exact ldOT 1 3 rfl (by assumption) (by repeat constructor)) | (first | exact ldO1 0 rfl (by assumption) rfl | exact ldO1 1 rfl (by assumption) rfl | exact ldO1 2 rfl (by assumption) rfl | exact ldO1 3 rfl (by assumption) rfl | exact ldO1 4 rfl (by assumption) rfl | exact ldO1 5 rfl (by assumption) rfl | exact ldM1 0 rfl (fun _ => rfl) (by assumption) rfl | exact ldM1 1 rfl (fun _ => rfl) (by assumption) rfl | exact ldM1 2 rfl (fun _ => rfl) (by assumption) rfl | exact ldM1 3 rfl (fun _ => rfl) (by assumption) rfl | exact ldM1 4 rfl (fun _ => rfl) (by assumption) rfl | exact ldM1 5 rfl (fun _ => rfl) (by assumption) rfl))) ?_  -- 4:3 bound.go:50 t14 load
      refine J.q rfl rfl rfl rfl (Q.gtr (.t 2 rfl) (.t 0 rfl)) ?_  -- 4:4 bound.go:50 t15 binOp
      refine J.q rfl rfl rfl rfl (Q.move (.t 0 rfl)) ?_  -- 4:5 bound.go:50 t16 move
      refine J.gQ (Gd.one rfl rfl rfl (.t 0 rfl)) rfl rfl rfl (.p 6 rfl .nil) (fun hg => (Q.fa0 0 Try.underlying23 rfl Try.sizeOf2 rfl rfl (.t 0 rfl))) ?_  -- 4:6 bound.go:50 t17 fieldAddr
      refine J.gQ (Gd.one rfl rfl rfl (.t 1 rfl)) rfl rfl rfl (.g 0 rfl .nil) (fun hg => (Q.load (.t 0 rfl) Try.isAgg2 (by first | (first | exact ldT 1 0 rfl (by repeat constructor) | exact ldTΦ 1 0 rfl (by repeat constructor) | exact ldT 1 1 rfl (by repeat constructor) | exact ldTΦ 1 1 rfl (by repeat constructor) | exact ldT 1 2 rfl (by repeat constructor) | exact ldTΦ 1 2 rfl (by repeat constructor) | exact ldT 1 3 rfl (by repeat constructor) | exact ldTΦ 1 3 rfl (by repeat constructor) | exact ldT 1 4 rfl (by repeat constructor) | exact ldTΦ 1 4 rfl (by repeat constructor) | exact ldT 1 5 rfl (by repeat constructor) | exact ldTΦ 1 5 rfl (by repeat constructor) | exact ldT 1 6 rfl (by repeat constructor) | exact ldO 0 rfl (by assumption) | exact ldO 1 rfl (by assumption) | exact ldO 2 rfl (by assumption) | exact ldO 3 rfl (by assumption) | exact ldOT 1 0 rfl (by assumption) (by repeat constructor) | exact ldOT 1 1 rfl (by assumption) (by repeat constructor) | exact ldOT 1 2 rfl (by assumption) (by repeat constructor) | exact ldOT 1 3 rfl (by assumption) (by repeat constructor)) | (first | exact ldO1 0 rfl (by assumption) rfl | exact ldO1 1 rfl (by assumption) rfl | exact ldO1 2 rfl (by assumption) rfl | exact ldO1 3 rfl (by assumption) rfl | exact ldO1 4 rfl (by assumption) rfl | exact ldO1 5 rfl (by assumption) rfl | exact ldM1 0 rfl (fun _ => rfl) (by assumption) rfl | exact ldM1 1 rfl (fun _ => rfl) (by assumption) rfl | exact ldM1 2 rfl (fun _ => rfl) (by assumption) rfl | exact ldM1 3 rfl (fun _ => rfl) (by assumption) rfl | exact ldM1 4 rfl (fun _ => rfl) (by assumption) rfl | exact ldM1 5 rfl (fun _ => rfl) (by assumption) rfl)))) ?_  -- 4:7 bound.go:50 t18 load
      refine J.gQ (Gd.one rfl rfl rfl (.t 2 rfl)) rfl rfl rfl (.g 0 rfl .nil) (fun hg => (Q.lss (.t 0 rfl) .c)) ?_  -- 4:8 bound.go:50 t19 binOp
      refine J.q rfl rfl rfl rfl (Q.or_ (.t 3 rfl) (.t 0 rfl)) ?_  -- 4:9 bound.go:50 t20 pick
      refine J.q rfl rfl rfl rfl (Q.move (.t 0 rfl)) ?_  -- 4:10 bound.go:50 t21 move
      refine J.gQ (Gd.one rfl rfl rfl (.t 0 rfl)) rfl rfl rfl (.p 11 rfl .nil) (fun hg => (Q.fa0 1 Try.underlying23 rfl Try.sizeOf2 rfl rfl (.t 0 rfl))) ?_  -- 4:11 bound.go:50 t22 fieldAddr
      refine J.gQ (Gd.one rfl rfl rfl (.t 1 rfl)) rfl rfl rfl (.g 0 rfl .nil) (fun hg => (Q.load (.t 0 rfl) Try.isAgg2 (by first | (first | exact ldT 1 0 rfl (by repeat constructor) | exact ldTΦ 1 0 rfl (by repeat constructor) | exact ldT 1 1 rfl (by repeat constructor) | exact ldTΦ 1 1 rfl (by repeat constructor) | exact ldT 1 2 rfl (by repeat constructor) | exact ldTΦ 1 2 rfl (by repeat constructor) | exact ldT 1 3 rfl (by repeat constructor) | exact ldTΦ 1 3 rfl (by repeat constructor) | exact ldT 1 4 rfl (by repeat constructor) | exact ldTΦ 1 4 rfl (by repeat constructor) | exact ldT 1 5 rfl (by repeat constructor) | exact ldTΦ 1 5 rfl (by repeat constructor) | exact ldT 1 6 rfl (by repeat constructor) | exact ldO 0 rfl (by assumption) | exact ldO 1 rfl (by assumption) | exact ldO 2 rfl (by assumption) | exact ldO 3 rfl (by assumption) | exact ldOT 1 0 rfl (by assumption) (by repeat constructor) | exact ldOT 1 1 rfl (by assumption) (by repeat constructor) | exact ldOT 1 2 rfl (by assumption) (by repeat constructor) | exact ldOT 1 3 rfl (by assumption) (by repeat constructor)) | (first | exact ldO1 0 rfl (by assumption) rfl | exact ldO1 1 rfl (by assumption) rfl | exact ldO1 2 rfl (by assumption) rfl | exact ldO1 3 rfl (by assumption) rfl | exact ldO1 4 rfl (by assumption) rfl | exact ldO1 5 rfl (by assumption) rfl | exact ldM1 0 rfl (fun _ => rfl) (by assumption) rfl | exact ldM1 1 rfl (fun _ => rfl) (by assumption) rfl | exact ldM1 2 rfl (fun _ => rfl) (by assumption) rfl | exact ldM1 3 rfl (fun _ => rfl) (by assumption) rfl | exact ldM1 4 rfl (fun _ => rfl) (by assumption) rfl | exact ldM1 5 rfl (fun _ => rfl) (by assumption) rfl)))) ?_  -- 4:12 bound.go:50 t23 load
      refine J.gQ (Gd.one rfl rfl rfl (.t 2 rfl)) rfl rfl rfl (.g 0 rfl .nil) (fun hg => (Q.gtr (.t 0 rfl) .c)) ?_  -- 4:13 bound.go:50 t24 binOp
      refine J.q rfl rfl rfl rfl (Q.or_ (.t 3 rfl) (.t 0 rfl)) ?_  -- 4:14 bound.go:50 t25 pick
      refine J.end_ ?_
      refine C.keep (.cons 0 rfl (.cons 16 rfl (.cons 17 rfl (.cons 18 rfl .nil)))) ?_
      refine C.cond (.t 0 rfl) (fun c1 => ?_) (fun c1 => ?_)  -- cond 1
      ·
        refine C.seq ?_
        refine C.reg ?_
        refine J.q rfl rfl rfl rfl (Q.assign .c) ?_  -- 5:0 bound.go:51 t2 assign
        refine J.end_ ?_
        refine C.keep (.cons 0 rfl .nil) ?_
        refine C.ret ?_
        refine X.inRet ?_
        refine X.thenRet ?_
        refine X.thenRet ?_
        refine X.inRet ?_
        refine X.thenRet ?_
        refine X.ret1 rfl 0 rfl (fun w hA => ?_)
        refine PostV.eq hA ?_
        rw [badAny_bad hx c1]
      ·
        have hok : x.bad = false := c1
        refine C.skip ?_
        refine X.inNormal ?_
        refine X.go ?_
        refine C.keep (.cons 1 rfl (.cons 2 rfl (.cons 3 rfl .nil))) ?_
        refine C.reg ?_
        refine J.q rfl rfl rfl rfl (Q.add (.t 0 rfl) .c (by omega)) ?_  -- 6:0 bound.go:49 t26 binOp
        refine J.keep (.cons 0 rfl (.cons 2 rfl (.cons 3 rfl .nil))) ?_
        refine J.q rfl rfl rfl rfl (Q.move (.t 0 rfl)) ?_  -- 6:1 bound.go:49 t7 move
        refine J.done ?_
        refine X.nx (⟨i + 1, by omega, take_succ_all hx hgood hok⟩) (.cons 0 (by (first | rfl | (simp; done))) (.cons 2 (by (first | rfl | (simp; done))) (.cons 3 (by (first | rfl | (simp; done))) .nil))) ?_ ?_
        ·
          exact fun _ h => h.dropM
        ·
          simp; omega
    ·
      simp only [decide_eq_true_eq, decide_eq_false_iff_not, Bool.and_eq_true, Bool.or_eq_true, Bool.and_eq_false_iff, Bool.or_eq_false_iff, Bool.not_eq_true', Bool.not_eq_false', beq_iff_eq, bne_iff_ne, Int.not_lt, Int.not_le, Decidable.not_not, ne_eq] at c0
      refine C.exit ?_
      refine X.thenExit ?_
      refine X.thenExit ?_
      refine X.inHit ?_
      refine X.go ?_
      refine C.keep .nil ?_
      refine C.seq ?_
      refine C.reg ?_
      refine J.q rfl rfl rfl rfl (Q.assign .c) ?_  -- 7:0 bound.go:54 t2 assign
      refine J.end_ ?_
      refine C.ret ?_
      refine X.ret1 rfl 0 rfl (fun w hA => ?_)
      refine PostV.eq hA ?_
      rw [badAny_good (by rw [List.take_of_length_le (by omega)] at hgood; exact hgood)]

theorem Check1_calls (w : World) (x : Span) : Calls Try.prog 70 [.agg x.enc.toArray].toArray w (PostV (.int .i64 (badAny [x])) w) := by
  refine Calls.enter Try.func70 rfl rfl rfl ?_
  refine C.conseq (A' := St w no [] []) (fun _ e => by subst e; exact St.init _ [] (by simp)) ?_
  refine C.seq ?_
  refine C.reg ?_
  refine J.box rfl rfl rfl rfl (.t 0 rfl) rfl ?_; intro b1 hb1  -- 0:0 bound.go:45 t1 box
  refine J.q rfl rfl rfl rfl (Q.assign .c) ?_  -- 0:1 bound.go:45 t2 assign
  refine J.end_ ?_
  refine C.keep (.cons 1 rfl .nil) ?_
  refine C.seq ?_
  refine C.reg ?_
  refine J.q rfl rfl rfl rfl (Q.loadsV (.t 0 rfl) ⟨Try.isAgg23, Try.sizeOf23⟩ (by first | (first | exact ldT 2 0 rfl (by repeat constructor) | exact ldTΦ 2 0 rfl (by repeat constructor) | exact ldT 2 1 rfl (by repeat constructor) | exact ldTΦ 2 1 rfl (by repeat constructor) | exact ldT 2 2 rfl (by repeat constructor) | exact ldTΦ 2 2 rfl (by repeat constructor) | exact ldT 2 3 rfl (by repeat constructor) | exact ldTΦ 2 3 rfl (by repeat constructor) | exact ldT 2 4 rfl (by repeat constructor) | exact ldTΦ 2 4 rfl (by repeat constructor) | exact ldT 2 5 rfl (by repeat constructor) | exact ldTΦ 2 5 rfl (by repeat constructor) | exact ldT 2 6 rfl (by repeat constructor) | exact ldO 0 rfl (by assumption) | exact ldO 1 rfl (by assumption) | exact ldO 2 rfl (by assumption) | exact ldO 3 rfl (by assumption) | exact ldOT 2 0 rfl (by assumption) (by repeat constructor) | exact ldOT 2 1 rfl (by assumption) (by repeat constructor) | exact ldOT 2 2 rfl (by assumption) (by repeat constructor) | exact ldOT 2 3 rfl (by assumption) (by repeat constructor)) | (first | exact ldO1 0 rfl (by assumption) rfl | exact ldO1 1 rfl (by assumption) rfl | exact ldO1 2 rfl (by assumption) rfl | exact ldO1 3 rfl (by assumption) rfl | exact ldO1 4 rfl (by assumption) rfl | exact ldO1 5 rfl (by assumption) rfl | exact ldM1 0 rfl (fun _ => rfl) (by assumption) rfl | exact ldM1 1 rfl (fun _ => rfl) (by assumption) rfl | exact ldM1 2 rfl (fun _ => rfl) (by assumption) rfl | exact ldM1 3 rfl (fun _ => rfl) (by assumption) rfl | exact ldM1 4 rfl (fun _ => rfl) (by assumption) rfl | exact ldM1 5 rfl (fun _ => rfl) (by assumption) rfl)) rfl) ?_  -- 1:0 bound.go:45 t3 load
  refine J.lit rfl rfl rfl rfl rfl rfl Try.underlying51 inf23 (.cons (.t 0 rfl) .nil) (Cs.eq (.cons rfl .nil)) (by simp) (by simp) (by simp) (by simp) ?_; intro b4 hb4  -- 1:1 bound.go:45 t4 buildSlice
  refine J.callV rfl rfl rfl rfl (run_static Try.call91 .f (.cons (.t 0 rfl) .nil) rfl) (fun w hA => check_calls w _ 1 [x] (okRow hA 0 rfl rfl Span.enc_len Span.enc_ne) (by simp)) ?_  -- 1:2 bound.go:45 t5 call
  refine J.q rfl rfl rfl rfl (Q.assign (.t 0 rfl)) ?_  -- 1:3 bound.go:45 t2 assign
  refine J.end_ ?_
  refine C.keep (.cons 0 rfl .nil) ?_
  refine C.ret ?_
  refine X.ret1 rfl 0 rfl (fun w hA => ?_)
  exact PostV.eq hA rfl

theorem inRange_calls (w : World) (x : Span) (lo hi : Int) : Calls Try.prog 61 [.agg x.enc.toArray, .int .i64 lo, .int .i64 hi].toArray w (PostV (.bool (x.within lo hi)) w) := by
  refine Calls.enter Try.func61 rfl rfl rfl ?_
  refine C.conseq (A' := St w no [] []) (fun _ e => by subst e; exact St.init _ [] (by simp)) ?_
  refine C.seq ?_
  refine C.reg ?_
  refine J.box rfl rfl rfl rfl (.t 0 rfl) rfl ?_; intro b3 hb3  -- 0:0 cable.go:15 t3 box
  refine J.q rfl rfl rfl rfl (Q.assign .c) ?_  -- 0:1 cable.go:15 t6 assign
  refine J.end_ ?_
  refine C.keep (.cons 1 rfl (.cons 3 rfl (.cons 4 rfl .nil))) ?_
  refine C.seq ?_
  refine C.reg ?_
  refine J.q rfl rfl rfl rfl (Q.loadsV (.t 0 rfl) ⟨Try.isAgg23, Try.sizeOf23⟩ (by first | (first | exact ldT 2 0 rfl (by repeat constructor) | exact ldTΦ 2 0 rfl (by repeat constructor) | exact ldT 2 1 rfl (by repeat constructor) | exact ldTΦ 2 1 rfl (by repeat constructor) | exact ldT 2 2 rfl (by repeat constructor) | exact ldTΦ 2 2 rfl (by repeat constructor) | exact ldT 2 3 rfl (by repeat constructor) | exact ldTΦ 2 3 rfl (by repeat constructor) | exact ldT 2 4 rfl (by repeat constructor) | exact ldTΦ 2 4 rfl (by repeat constructor) | exact ldT 2 5 rfl (by repeat constructor) | exact ldTΦ 2 5 rfl (by repeat constructor) | exact ldT 2 6 rfl (by repeat constructor) | exact ldO 0 rfl (by assumption) | exact ldO 1 rfl (by assumption) | exact ldO 2 rfl (by assumption) | exact ldO 3 rfl (by assumption) | exact ldOT 2 0 rfl (by assumption) (by repeat constructor) | exact ldOT 2 1 rfl (by assumption) (by repeat constructor) | exact ldOT 2 2 rfl (by assumption) (by repeat constructor) | exact ldOT 2 3 rfl (by assumption) (by repeat constructor)) | (first | exact ldO1 0 rfl (by assumption) rfl | exact ldO1 1 rfl (by assumption) rfl | exact ldO1 2 rfl (by assumption) rfl | exact ldO1 3 rfl (by assumption) rfl | exact ldO1 4 rfl (by assumption) rfl | exact ldO1 5 rfl (by assumption) rfl | exact ldM1 0 rfl (fun _ => rfl) (by assumption) rfl | exact ldM1 1 rfl (fun _ => rfl) (by assumption) rfl | exact ldM1 2 rfl (fun _ => rfl) (by assumption) rfl | exact ldM1 3 rfl (fun _ => rfl) (by assumption) rfl | exact ldM1 4 rfl (fun _ => rfl) (by assumption) rfl | exact ldM1 5 rfl (fun _ => rfl) (by assumption) rfl)) rfl) ?_  -- 1:0 cable.go:16 t7 load
  refine J.callV rfl rfl rfl rfl (run_static Try.call70 .f (.cons (.t 0 rfl) .nil) rfl) (fun w hA => Check1_calls w x) ?_  -- 1:1 cable.go:16 t8 call
  refine J.q rfl rfl rfl rfl (Q.eql (.t 0 rfl) .c) ?_  -- 1:2 cable.go:16 t9 binOp
  refine J.q rfl rfl rfl rfl (Q.move (.t 0 rfl)) ?_  -- 1:3 cable.go:16 t10 move
  refine J.gQ (Gd.one rfl rfl rfl (.t 0 rfl)) rfl rfl rfl (.p 4 rfl .nil) (fun hg => (Q.fa0 0 Try.underlying23 rfl Try.sizeOf2 rfl rfl (.t 0 rfl))) ?_  -- 1:4 cable.go:16 t11 fieldAddr
  refine J.gQ (Gd.one rfl rfl rfl (.t 1 rfl)) rfl rfl rfl (.g 0 rfl .nil) (fun hg => (Q.load (.t 0 rfl) Try.isAgg2 (by first | (first | exact ldT 1 0 rfl (by repeat constructor) | exact ldTΦ 1 0 rfl (by repeat constructor) | exact ldT 1 1 rfl (by repeat constructor) | exact ldTΦ 1 1 rfl (by repeat constructor) | exact ldT 1 2 rfl (by repeat constructor) | exact ldTΦ 1 2 rfl (by repeat constructor) | exact ldT 1 3 rfl (by repeat constructor) | exact ldTΦ 1 3 rfl (by repeat constructor) | exact ldT 1 4 rfl (by repeat constructor) | exact ldTΦ 1 4 rfl (by repeat constructor) | exact ldT 1 5 rfl (by repeat constructor) | exact ldTΦ 1 5 rfl (by repeat constructor) | exact ldT 1 6 rfl (by repeat constructor) | exact ldO 0 rfl (by assumption) | exact ldO 1 rfl (by assumption) | exact ldO 2 rfl (by assumption) | exact ldO 3 rfl (by assumption) | exact ldOT 1 0 rfl (by assumption) (by repeat constructor) | exact ldOT 1 1 rfl (by assumption) (by repeat constructor) | exact ldOT 1 2 rfl (by assumption) (by repeat constructor) | exact ldOT 1 3 rfl (by assumption) (by repeat constructor)) | (first | exact ldO1 0 rfl (by assumption) rfl | exact ldO1 1 rfl (by assumption) rfl | exact ldO1 2 rfl (by assumption) rfl | exact ldO1 3 rfl (by assumption) rfl | exact ldO1 4 rfl (by assumption) rfl | exact ldO1 5 rfl (by assumption) rfl | exact ldM1 0 rfl (fun _ => rfl) (by assumption) rfl | exact ldM1 1 rfl (fun _ => rfl) (by assumption) rfl | exact ldM1 2 rfl (fun _ => rfl) (by assumption) rfl | exact ldM1 3 rfl (fun _ => rfl) (by assumption) rfl | exact ldM1 4 rfl (fun _ => rfl) (by assumption) rfl | exact ldM1 5 rfl (fun _ => rfl) (by assumption) rfl)))) ?_  -- 1:5 cable.go:16 t12 load
  refine J.gQ (Gd.one rfl rfl rfl (.t 2 rfl)) rfl rfl rfl (.p 7 rfl .nil) (fun hg => (Q.move (.t 0 rfl))) ?_  -- 1:6 cable.go:16 t13 move
  refine J.gQ (Gd.one rfl rfl rfl (.t 3 rfl)) rfl rfl rfl (.g 1 rfl (.g 0 rfl .nil)) (fun hg => (Q.geq (.t 0 rfl) (.t 1 rfl))) ?_  -- 1:7 cable.go:16 t14 binOp
  refine J.q rfl rfl rfl rfl (Q.and_ (.t 4 rfl) (.t 0 rfl)) ?_  -- 1:8 cable.go:16 t15 pick
  refine J.q rfl rfl rfl rfl (Q.move (.t 0 rfl)) ?_  -- 1:9 cable.go:16 t16 move
  refine J.gQ (Gd.one rfl rfl rfl (.t 0 rfl)) rfl rfl rfl (.p 10 rfl .nil) (fun hg => (Q.fa0 1 Try.underlying23 rfl Try.sizeOf2 rfl rfl (.t 0 rfl))) ?_  -- 1:10 cable.go:16 t17 fieldAddr
  refine J.gQ (Gd.one rfl rfl rfl (.t 1 rfl)) rfl rfl rfl (.g 0 rfl .nil) (fun hg => (Q.load (.t 0 rfl) Try.isAgg2 (by first | (first | exact ldT 1 0 rfl (by repeat constructor) | exact ldTΦ 1 0 rfl (by repeat constructor) | exact ldT 1 1 rfl (by repeat constructor) | exact ldTΦ 1 1 rfl (by repeat constructor) | exact ldT 1 2 rfl (by repeat constructor) | exact ldTΦ 1 2 rfl (by repeat constructor) | exact ldT 1 3 rfl (by repeat constructor) | exact ldTΦ 1 3 rfl (by repeat constructor) | exact ldT 1 4 rfl (by repeat constructor) | exact ldTΦ 1 4 rfl (by repeat constructor) | exact ldT 1 5 rfl (by repeat constructor) | exact ldTΦ 1 5 rfl (by repeat constructor) | exact ldT 1 6 rfl (by repeat constructor) | exact ldO 0 rfl (by assumption) | exact ldO 1 rfl (by assumption) | exact ldO 2 rfl (by assumption) | exact ldO 3 rfl (by assumption) | exact ldOT 1 0 rfl (by assumption) (by repeat constructor) | exact ldOT 1 1 rfl (by assumption) (by repeat constructor) | exact ldOT 1 2 rfl (by assumption) (by repeat constructor) | exact ldOT 1 3 rfl (by assumption) (by repeat constructor)) | (first | exact ldO1 0 rfl (by assumption) rfl | exact ldO1 1 rfl (by assumption) rfl | exact ldO1 2 rfl (by assumption) rfl | exact ldO1 3 rfl (by assumption) rfl | exact ldO1 4 rfl (by assumption) rfl | exact ldO1 5 rfl (by assumption) rfl | exact ldM1 0 rfl (fun _ => rfl) (by assumption) rfl | exact ldM1 1 rfl (fun _ => rfl) (by assumption) rfl | exact ldM1 2 rfl (fun _ => rfl) (by assumption) rfl | exact ldM1 3 rfl (fun _ => rfl) (by assumption) rfl | exact ldM1 4 rfl (fun _ => rfl) (by assumption) rfl | exact ldM1 5 rfl (fun _ => rfl) (by assumption) rfl)))) ?_  -- 1:11 cable.go:16 t18 load
  refine J.gQ (Gd.one rfl rfl rfl (.t 2 rfl)) rfl rfl rfl (.p 14 rfl .nil) (fun hg => (Q.move (.t 0 rfl))) ?_  -- 1:12 cable.go:16 t19 move
  refine J.gQ (Gd.one rfl rfl rfl (.t 3 rfl)) rfl rfl rfl (.g 1 rfl (.g 0 rfl .nil)) (fun hg => (Q.leq (.t 0 rfl) (.t 1 rfl))) ?_  -- 1:13 cable.go:16 t20 binOp
  refine J.q rfl rfl rfl rfl (Q.and_ (.t 4 rfl) (.t 0 rfl)) ?_  -- 1:14 cable.go:16 t21 pick
  refine J.q rfl rfl rfl rfl (Q.assign (.t 0 rfl)) ?_  -- 1:15 cable.go:16 t6 assign
  refine J.end_ ?_
  refine C.keep (.cons 0 rfl .nil) ?_
  refine C.ret ?_
  refine X.ret1 rfl 0 rfl (fun w hA => ?_)
  exact PostV.eq hA (by rw [within_eq])

theorem Check_calls (w : World) (c : Cable) (a : Option Addr) (cc : Nat) (hr : (rowO a 8 Nd.enc c.nodes).ok w) : Calls Try.prog 42 [.agg (c.cells a cc).toArray].toArray w (PostV (.int .i64 c.check) w) := by
  refine Calls.enter Try.func42 rfl rfl rfl ?_
  refine C.conseq (A' := St w no [] [rowO a 8 Nd.enc c.nodes]) (fun _ e => by subst e; exact St.init _ _ (by simpa using hr)) ?_
  refine C.seq ?_
  refine C.reg ?_
  refine J.box rfl rfl rfl rfl (.t 0 rfl) rfl ?_; intro b1 hb1  -- 0:0 cable.go:20 t1 box
  refine J.q rfl rfl rfl rfl (Q.assign .c) ?_  -- 0:1 cable.go:20 t2 assign
  refine J.end_ ?_
  refine C.keep (.cons 1 rfl .nil) ?_
  refine C.seq ?_
  refine C.seq ?_
  refine C.reg ?_
  refine J.q rfl rfl rfl rfl (Q.fa0 2 Try.underlying26 rfl Try.sizeOf24 rfl rfl (.t 0 rfl)) ?_  -- 1:0 cable.go:21 t6 fieldAddr
  refine J.q rfl rfl rfl rfl (Q.load (.t 0 rfl) Try.isAgg24 (by first | (first | exact ldT 1 0 rfl (by repeat constructor) | exact ldTΦ 1 0 rfl (by repeat constructor) | exact ldT 1 1 rfl (by repeat constructor) | exact ldTΦ 1 1 rfl (by repeat constructor) | exact ldT 1 2 rfl (by repeat constructor) | exact ldTΦ 1 2 rfl (by repeat constructor) | exact ldT 1 3 rfl (by repeat constructor) | exact ldTΦ 1 3 rfl (by repeat constructor) | exact ldT 1 4 rfl (by repeat constructor) | exact ldTΦ 1 4 rfl (by repeat constructor) | exact ldT 1 5 rfl (by repeat constructor) | exact ldTΦ 1 5 rfl (by repeat constructor) | exact ldT 1 6 rfl (by repeat constructor) | exact ldO 0 rfl (by assumption) | exact ldO 1 rfl (by assumption) | exact ldO 2 rfl (by assumption) | exact ldO 3 rfl (by assumption) | exact ldOT 1 0 rfl (by assumption) (by repeat constructor) | exact ldOT 1 1 rfl (by assumption) (by repeat constructor) | exact ldOT 1 2 rfl (by assumption) (by repeat constructor) | exact ldOT 1 3 rfl (by assumption) (by repeat constructor)) | (first | exact ldO1 0 rfl (by assumption) rfl | exact ldO1 1 rfl (by assumption) rfl | exact ldO1 2 rfl (by assumption) rfl | exact ldO1 3 rfl (by assumption) rfl | exact ldO1 4 rfl (by assumption) rfl | exact ldO1 5 rfl (by assumption) rfl | exact ldM1 0 rfl (fun _ => rfl) (by assumption) rfl | exact ldM1 1 rfl (fun _ => rfl) (by assumption) rfl | exact ldM1 2 rfl (fun _ => rfl) (by assumption) rfl | exact ldM1 3 rfl (fun _ => rfl) (by assumption) rfl | exact ldM1 4 rfl (fun _ => rfl) (by assumption) rfl | exact ldM1 5 rfl (fun _ => rfl) (by assumption) rfl))) ?_  -- 1:1 cable.go:21 t7 load
  refine J.q rfl rfl rfl rfl (Q.len Try.underlying24 (.t 0 rfl)) ?_  -- 1:2 cable.go:21 t8 call
  refine J.q rfl rfl rfl rfl (Q.gtr (.t 0 rfl) .c) ?_  -- 1:3 cable.go:21 t9 binOp
  refine J.end_ ?_
  refine C.keep (.cons 0 rfl (.cons 4 rfl .nil)) ?_
  refine C.cond (.t 0 rfl) (fun c0 => ?_) (fun c0 => ?_)  -- cond 0
  ·
    refine C.seq ?_
    refine C.reg ?_
    refine J.q rfl rfl rfl rfl (Q.assign .c) ?_  -- 2:0 cable.go:22 t2 assign
    refine J.end_ ?_
    refine C.keep (.cons 0 rfl .nil) ?_
    refine C.ret ?_
    refine X.thenRet ?_
    refine X.ret1 rfl 0 rfl (fun w hA => ?_)
    exact PostV.eq hA (by rw [check_many (by grind)])
  ·
    refine C.skip ?_
    refine X.go ?_
    refine C.keep (.cons 1 rfl .nil) ?_
    refine C.seq ?_
    refine C.seq ?_
    refine C.reg ?_
    refine J.q rfl rfl rfl rfl (Q.fa0 2 Try.underlying26 rfl Try.sizeOf24 rfl rfl (.t 0 rfl)) ?_  -- 3:0 cable.go:24 t10 fieldAddr
    refine J.q rfl rfl rfl rfl (Q.load (.t 0 rfl) Try.isAgg24 (by first | (first | exact ldT 1 0 rfl (by repeat constructor) | exact ldTΦ 1 0 rfl (by repeat constructor) | exact ldT 1 1 rfl (by repeat constructor) | exact ldTΦ 1 1 rfl (by repeat constructor) | exact ldT 1 2 rfl (by repeat constructor) | exact ldTΦ 1 2 rfl (by repeat constructor) | exact ldT 1 3 rfl (by repeat constructor) | exact ldTΦ 1 3 rfl (by repeat constructor) | exact ldT 1 4 rfl (by repeat constructor) | exact ldTΦ 1 4 rfl (by repeat constructor) | exact ldT 1 5 rfl (by repeat constructor) | exact ldTΦ 1 5 rfl (by repeat constructor) | exact ldT 1 6 rfl (by repeat constructor) | exact ldO 0 rfl (by assumption) | exact ldO 1 rfl (by assumption) | exact ldO 2 rfl (by assumption) | exact ldO 3 rfl (by assumption) | exact ldOT 1 0 rfl (by assumption) (by repeat constructor) | exact ldOT 1 1 rfl (by assumption) (by repeat constructor) | exact ldOT 1 2 rfl (by assumption) (by repeat constructor) | exact ldOT 1 3 rfl (by assumption) (by repeat constructor)) | (first | exact ldO1 0 rfl (by assumption) rfl | exact ldO1 1 rfl (by assumption) rfl | exact ldO1 2 rfl (by assumption) rfl | exact ldO1 3 rfl (by assumption) rfl | exact ldO1 4 rfl (by assumption) rfl | exact ldO1 5 rfl (by assumption) rfl | exact ldM1 0 rfl (fun _ => rfl) (by assumption) rfl | exact ldM1 1 rfl (fun _ => rfl) (by assumption) rfl | exact ldM1 2 rfl (fun _ => rfl) (by assumption) rfl | exact ldM1 3 rfl (fun _ => rfl) (by assumption) rfl | exact ldM1 4 rfl (fun _ => rfl) (by assumption) rfl | exact ldM1 5 rfl (fun _ => rfl) (by assumption) rfl))) ?_  -- 3:1 cable.go:24 t11 load
    refine J.q rfl rfl rfl rfl (Q.len Try.underlying24 (.t 0 rfl)) ?_  -- 3:2 cable.go:24 t12 call
    refine J.q rfl rfl rfl rfl (Q.eql (.t 0 rfl) .c) ?_  -- 3:3 cable.go:24 t13 binOp
    refine J.q rfl rfl rfl rfl (Q.move (.t 0 rfl)) ?_  -- 3:4 cable.go:24 t14 move
    refine J.gQ (Gd.one rfl rfl rfl (.t 0 rfl)) rfl rfl rfl (.p 5 rfl .nil) (fun hg => (Q.fa0 0 Try.underlying26 rfl Try.sizeOf23 rfl rfl (.t 0 rfl))) ?_  -- 3:5 cable.go:24 t15 fieldAddr
    refine J.gQ (Gd.one rfl rfl rfl (.t 1 rfl)) rfl rfl rfl (.g 0 rfl .nil) (fun hg => (Q.loadsV (.t 0 rfl) ⟨Try.isAgg23, Try.sizeOf23⟩ (by first | (first | exact ldT 2 0 rfl (by repeat constructor) | exact ldTΦ 2 0 rfl (by repeat constructor) | exact ldT 2 1 rfl (by repeat constructor) | exact ldTΦ 2 1 rfl (by repeat constructor) | exact ldT 2 2 rfl (by repeat constructor) | exact ldTΦ 2 2 rfl (by repeat constructor) | exact ldT 2 3 rfl (by repeat constructor) | exact ldTΦ 2 3 rfl (by repeat constructor) | exact ldT 2 4 rfl (by repeat constructor) | exact ldTΦ 2 4 rfl (by repeat constructor) | exact ldT 2 5 rfl (by repeat constructor) | exact ldTΦ 2 5 rfl (by repeat constructor) | exact ldT 2 6 rfl (by repeat constructor) | exact ldO 0 rfl (by assumption) | exact ldO 1 rfl (by assumption) | exact ldO 2 rfl (by assumption) | exact ldO 3 rfl (by assumption) | exact ldOT 2 0 rfl (by assumption) (by repeat constructor) | exact ldOT 2 1 rfl (by assumption) (by repeat constructor) | exact ldOT 2 2 rfl (by assumption) (by repeat constructor) | exact ldOT 2 3 rfl (by assumption) (by repeat constructor)) | (first | exact ldO1 0 rfl (by assumption) rfl | exact ldO1 1 rfl (by assumption) rfl | exact ldO1 2 rfl (by assumption) rfl | exact ldO1 3 rfl (by assumption) rfl | exact ldO1 4 rfl (by assumption) rfl | exact ldO1 5 rfl (by assumption) rfl | exact ldM1 0 rfl (fun _ => rfl) (by assumption) rfl | exact ldM1 1 rfl (fun _ => rfl) (by assumption) rfl | exact ldM1 2 rfl (fun _ => rfl) (by assumption) rfl | exact ldM1 3 rfl (fun _ => rfl) (by assumption) rfl | exact ldM1 4 rfl (fun _ => rfl) (by assumption) rfl | exact ldM1 5 rfl (fun _ => rfl) (by assumption) rfl)) rfl)) ?_  -- 3:6 cable.go:24 t16 load
    refine J.gCall (Gd.one rfl rfl rfl (.t 2 rfl)) rfl rfl rfl (.g 0 rfl .nil) (run_static Try.call61 .f (.cons (.t 0 rfl) (.cons .c (.cons .c .nil))) rfl) (fun hg w hA => inRange_calls w c.supply 0 67108864) ?_  -- 3:7 cable.go:24 t17 call
    refine J.gQ (Gd.one rfl rfl rfl (.t 3 rfl)) rfl rfl rfl (.g 0 rfl .nil) (fun hg => (Q.not_ (.t 0 rfl))) ?_  -- 3:8 cable.go:24 t18 unOp
    refine J.q rfl rfl rfl rfl (Q.or_ (.t 4 rfl) (.t 0 rfl)) ?_  -- 3:9 cable.go:24 t19 pick
    refine J.end_ ?_
    refine C.keep (.cons 0 rfl (.cons 10 rfl .nil)) ?_
    refine C.cond (.t 0 rfl) (fun c1 => ?_) (fun c1 => ?_)  -- cond 1
    ·
      refine C.seq ?_
      refine C.reg ?_
      refine J.q rfl rfl rfl rfl (Q.assign .c) ?_  -- 4:0 cable.go:25 t2 assign
      refine J.end_ ?_
      refine C.keep (.cons 0 rfl .nil) ?_
      refine C.ret ?_
      refine X.thenRet ?_
      refine X.ret1 rfl 0 rfl (fun w hA => ?_)
      exact PostV.eq hA (by rw [check_none (by grind) (by grind)])
    ·
      have c0' : ¬ 60 < c.nodes.length := by grind
      refine C.skip ?_
      refine X.go ?_
      refine C.keep (.cons 1 rfl .nil) ?_
      refine C.seq ?_
      refine C.seq ?_
      refine C.reg ?_
      refine J.q rfl rfl rfl rfl (Q.fa0 2 Try.underlying26 rfl Try.sizeOf24 rfl rfl (.t 0 rfl)) ?_  -- 5:0 cable.go:27 t20 fieldAddr
      refine J.q rfl rfl rfl rfl (Q.load (.t 0 rfl) Try.isAgg24 (by first | (first | exact ldT 1 0 rfl (by repeat constructor) | exact ldTΦ 1 0 rfl (by repeat constructor) | exact ldT 1 1 rfl (by repeat constructor) | exact ldTΦ 1 1 rfl (by repeat constructor) | exact ldT 1 2 rfl (by repeat constructor) | exact ldTΦ 1 2 rfl (by repeat constructor) | exact ldT 1 3 rfl (by repeat constructor) | exact ldTΦ 1 3 rfl (by repeat constructor) | exact ldT 1 4 rfl (by repeat constructor) | exact ldTΦ 1 4 rfl (by repeat constructor) | exact ldT 1 5 rfl (by repeat constructor) | exact ldTΦ 1 5 rfl (by repeat constructor) | exact ldT 1 6 rfl (by repeat constructor) | exact ldO 0 rfl (by assumption) | exact ldO 1 rfl (by assumption) | exact ldO 2 rfl (by assumption) | exact ldO 3 rfl (by assumption) | exact ldOT 1 0 rfl (by assumption) (by repeat constructor) | exact ldOT 1 1 rfl (by assumption) (by repeat constructor) | exact ldOT 1 2 rfl (by assumption) (by repeat constructor) | exact ldOT 1 3 rfl (by assumption) (by repeat constructor)) | (first | exact ldO1 0 rfl (by assumption) rfl | exact ldO1 1 rfl (by assumption) rfl | exact ldO1 2 rfl (by assumption) rfl | exact ldO1 3 rfl (by assumption) rfl | exact ldO1 4 rfl (by assumption) rfl | exact ldO1 5 rfl (by assumption) rfl | exact ldM1 0 rfl (fun _ => rfl) (by assumption) rfl | exact ldM1 1 rfl (fun _ => rfl) (by assumption) rfl | exact ldM1 2 rfl (fun _ => rfl) (by assumption) rfl | exact ldM1 3 rfl (fun _ => rfl) (by assumption) rfl | exact ldM1 4 rfl (fun _ => rfl) (by assumption) rfl | exact ldM1 5 rfl (fun _ => rfl) (by assumption) rfl))) ?_  -- 5:1 cable.go:27 t21 load
      refine J.q rfl rfl rfl rfl (Q.len Try.underlying24 (.t 0 rfl)) ?_  -- 5:2 cable.go:27 t22 call
      refine J.q rfl rfl rfl rfl (Q.move .c) ?_  -- 5:3 cable.go:27 t23 move
      refine J.end_ ?_
      refine C.keep (.cons 0 rfl (.cons 1 rfl (.cons 2 rfl .nil))) ?_
      refine C.block ?_
      refine C.loop_1 (fun i => .int .i64 (i.1 : Int)) (G := { i : Nat // i ≤ c.nodes.length ∧ ∀ (j : Nat) (n : Nd), c.nodes[j]? = some n → j < i → n.good j = true }) (fun i => St w no [] [bx b1 26 (c.cells a cc), rowO a 8 Nd.enc c.nodes]) (fun i => c.nodes.length - i.1) (⟨0, by simp⟩) (by (first | rfl | (simp; done))) ?_ ?_
      ·
        exact fun _ h => h.freeze
      ·
        rintro ⟨i, hi, hg⟩
        dsimp only
        refine C.seq ?_
        refine C.reg ?_
        refine J.q rfl rfl rfl rfl (Q.lss (.t 0 rfl) (.t 1 rfl)) ?_  -- 6:0 cable.go:27 t24 binOp
        refine J.end_ ?_
        refine C.seq ?_
        refine C.cond (.t 0 rfl) (fun c2 => ?_) (fun c2 => ?_)  -- cond 2
        ·
          simp only [decide_eq_true_eq, decide_eq_false_iff_not, Bool.and_eq_true, Bool.or_eq_true, Bool.and_eq_false_iff, Bool.or_eq_false_iff, Bool.not_eq_true', Bool.not_eq_false', beq_iff_eq, bne_iff_ne, Int.not_lt, Int.not_le, Decidable.not_not, ne_eq] at c2
          have hlt : i < c.nodes.length := by omega
          obtain ⟨n, hx⟩ := get_lt hlt
          obtain ⟨b, o, rfl⟩ := rowO.addr hr.1 (by omega)
          refine C.skip ?_
          refine X.go ?_
          refine C.keep (.cons 1 rfl (.cons 2 rfl (.cons 3 rfl .nil))) ?_
          refine C.seq ?_
          refine C.block ?_
          refine C.seq ?_
          refine C.reg ?_
          refine J.q rfl rfl rfl rfl (Q.move (.t 0 rfl)) ?_  -- 7:0 cable.go:27 t25 move
          refine J.q rfl rfl rfl rfl (Q.indexAddr Try.underlying24 Try.sizeOf40 (.t 3 rfl) (.t 1 rfl) (by omega)) ?_  -- 7:1 cable.go:27 t26 indexAddr
          refine J.q rfl rfl rfl rfl (Q.loadsV (.t 0 rfl) ⟨Try.isAgg40, Try.sizeOf40⟩ (by first | (first | exact ldT 8 0 rfl (by repeat constructor) | exact ldTΦ 8 0 rfl (by repeat constructor) | exact ldT 8 1 rfl (by repeat constructor) | exact ldTΦ 8 1 rfl (by repeat constructor) | exact ldT 8 2 rfl (by repeat constructor) | exact ldTΦ 8 2 rfl (by repeat constructor) | exact ldT 8 3 rfl (by repeat constructor) | exact ldTΦ 8 3 rfl (by repeat constructor) | exact ldT 8 4 rfl (by repeat constructor) | exact ldTΦ 8 4 rfl (by repeat constructor) | exact ldT 8 5 rfl (by repeat constructor) | exact ldTΦ 8 5 rfl (by repeat constructor) | exact ldT 8 6 rfl (by repeat constructor) | exact ldO 0 rfl (by assumption) | exact ldO 1 rfl (by assumption) | exact ldO 2 rfl (by assumption) | exact ldO 3 rfl (by assumption) | exact ldOT 8 0 rfl (by assumption) (by repeat constructor) | exact ldOT 8 1 rfl (by assumption) (by repeat constructor) | exact ldOT 8 2 rfl (by assumption) (by repeat constructor) | exact ldOT 8 3 rfl (by assumption) (by repeat constructor)) | (first | exact ldO1 0 rfl (by assumption) rfl | exact ldO1 1 rfl (by assumption) rfl | exact ldO1 2 rfl (by assumption) rfl | exact ldO1 3 rfl (by assumption) rfl | exact ldO1 4 rfl (by assumption) rfl | exact ldO1 5 rfl (by assumption) rfl | exact ldM1 0 rfl (fun _ => rfl) (by assumption) rfl | exact ldM1 1 rfl (fun _ => rfl) (by assumption) rfl | exact ldM1 2 rfl (fun _ => rfl) (by assumption) rfl | exact ldM1 3 rfl (fun _ => rfl) (by assumption) rfl | exact ldM1 4 rfl (fun _ => rfl) (by assumption) rfl | exact ldM1 5 rfl (fun _ => rfl) (by assumption) rfl)) rfl) ?_  -- 7:2 cable.go:27 t27 load
          refine J.alloc rfl rfl rfl rfl Try.zeroValue40 rfl ?_; intro b4 hb4  -- 7:3 cable.go:27 t4 alloc
          refine J.q rfl rfl rfl rfl (Q.assign (.t 3 rfl)) ?_  -- 7:4 cable.go:27 t3 assign
          refine J.s rfl rfl rfl (S.storeP (.t 1 rfl) (.t 2 rfl) Try.sizeOf40 rfl rfl (by (first | exact Nd.enc_one _ | (first | exact Span.enc_one _ | ((intro u hu; simp at hu; first | done | ((repeat' (rcases hu with rfl | hu)) <;> (try subst hu) <;> rfl)))))) (by (repeat (first | exact Upd.here | apply Upd.there))) (by (repeat constructor); done)) ?_  -- 7:5 cable.go:27 tNone store
          refine J.end_ ?_
          refine C.keep (.cons 0 rfl (.cons 1 rfl (.cons 5 rfl (.cons 6 rfl (.cons 7 rfl .nil))))) ?_
          refine C.seq ?_
          refine C.reg ?_
          refine J.q rfl rfl rfl rfl (Q.move (.t 0 rfl)) ?_  -- 8:0 cable.go:28 t28 move
          refine J.q rfl rfl rfl rfl (Q.eql (.t 0 rfl) .c) ?_  -- 8:1 cable.go:28 t29 binOp
          refine J.q rfl rfl rfl rfl (Q.move (.t 0 rfl)) ?_  -- 8:2 cable.go:28 t30 move
          refine J.gQ (Gd.one rfl rfl rfl (.t 0 rfl)) rfl rfl rfl (.p 4 rfl .nil) (fun hg => (Q.fa0 0 Try.underlying40 rfl Try.sizeOf3 rfl rfl (.t 0 rfl))) ?_  -- 8:3 cable.go:28 t31 fieldAddr
          refine J.gQ (Gd.one rfl rfl rfl (.t 1 rfl)) rfl rfl rfl (.g 0 rfl .nil) (fun hg => (Q.load (.t 0 rfl) Try.isAgg3 (by first | (first | exact ldT 1 0 rfl (by repeat constructor) | exact ldTΦ 1 0 rfl (by repeat constructor) | exact ldT 1 1 rfl (by repeat constructor) | exact ldTΦ 1 1 rfl (by repeat constructor) | exact ldT 1 2 rfl (by repeat constructor) | exact ldTΦ 1 2 rfl (by repeat constructor) | exact ldT 1 3 rfl (by repeat constructor) | exact ldTΦ 1 3 rfl (by repeat constructor) | exact ldT 1 4 rfl (by repeat constructor) | exact ldTΦ 1 4 rfl (by repeat constructor) | exact ldT 1 5 rfl (by repeat constructor) | exact ldTΦ 1 5 rfl (by repeat constructor) | exact ldT 1 6 rfl (by repeat constructor) | exact ldO 0 rfl (by assumption) | exact ldO 1 rfl (by assumption) | exact ldO 2 rfl (by assumption) | exact ldO 3 rfl (by assumption) | exact ldOT 1 0 rfl (by assumption) (by repeat constructor) | exact ldOT 1 1 rfl (by assumption) (by repeat constructor) | exact ldOT 1 2 rfl (by assumption) (by repeat constructor) | exact ldOT 1 3 rfl (by assumption) (by repeat constructor)) | (first | exact ldO1 0 rfl (by assumption) rfl | exact ldO1 1 rfl (by assumption) rfl | exact ldO1 2 rfl (by assumption) rfl | exact ldO1 3 rfl (by assumption) rfl | exact ldO1 4 rfl (by assumption) rfl | exact ldO1 5 rfl (by assumption) rfl | exact ldM1 0 rfl (fun _ => rfl) (by assumption) rfl | exact ldM1 1 rfl (fun _ => rfl) (by assumption) rfl | exact ldM1 2 rfl (fun _ => rfl) (by assumption) rfl | exact ldM1 3 rfl (fun _ => rfl) (by assumption) rfl | exact ldM1 4 rfl (fun _ => rfl) (by assumption) rfl | exact ldM1 5 rfl (fun _ => rfl) (by assumption) rfl)))) ?_  -- 8:4 cable.go:28 t32 load
          refine J.gQ (Gd.one rfl rfl rfl (.t 2 rfl)) rfl rfl rfl (.g 0 rfl .nil) (fun hg => (Q.eql (.t 0 rfl) .c)) ?_  -- 8:5 cable.go:28 t33 binOp
          refine J.q rfl rfl rfl rfl (Q.and_ (.t 3 rfl) (.t 0 rfl)) ?_  -- 8:6 cable.go:28 t34 pick
          refine J.q rfl rfl rfl rfl (Q.move (.t 0 rfl)) ?_  -- 8:7 cable.go:28 t35 move
          refine J.gQ (Gd.one rfl rfl rfl (.t 0 rfl)) rfl rfl rfl (.p 9 rfl .nil) (fun hg => (Q.fa0 1 Try.underlying40 rfl Try.sizeOf23 rfl rfl (.t 0 rfl))) ?_  -- 8:8 cable.go:28 t36 fieldAddr
          refine J.gQ (Gd.one rfl rfl rfl (.t 1 rfl)) rfl rfl rfl (.g 0 rfl .nil) (fun hg => (Q.loadsV (.t 0 rfl) ⟨Try.isAgg23, Try.sizeOf23⟩ (by first | (first | exact ldT 2 0 rfl (by repeat constructor) | exact ldTΦ 2 0 rfl (by repeat constructor) | exact ldT 2 1 rfl (by repeat constructor) | exact ldTΦ 2 1 rfl (by repeat constructor) | exact ldT 2 2 rfl (by repeat constructor) | exact ldTΦ 2 2 rfl (by repeat constructor) | exact ldT 2 3 rfl (by repeat constructor) | exact ldTΦ 2 3 rfl (by repeat constructor) | exact ldT 2 4 rfl (by repeat constructor) | exact ldTΦ 2 4 rfl (by repeat constructor) | exact ldT 2 5 rfl (by repeat constructor) | exact ldTΦ 2 5 rfl (by repeat constructor) | exact ldT 2 6 rfl (by repeat constructor) | exact ldO 0 rfl (by assumption) | exact ldO 1 rfl (by assumption) | exact ldO 2 rfl (by assumption) | exact ldO 3 rfl (by assumption) | exact ldOT 2 0 rfl (by assumption) (by repeat constructor) | exact ldOT 2 1 rfl (by assumption) (by repeat constructor) | exact ldOT 2 2 rfl (by assumption) (by repeat constructor) | exact ldOT 2 3 rfl (by assumption) (by repeat constructor)) | (first | exact ldO1 0 rfl (by assumption) rfl | exact ldO1 1 rfl (by assumption) rfl | exact ldO1 2 rfl (by assumption) rfl | exact ldO1 3 rfl (by assumption) rfl | exact ldO1 4 rfl (by assumption) rfl | exact ldO1 5 rfl (by assumption) rfl | exact ldM1 0 rfl (fun _ => rfl) (by assumption) rfl | exact ldM1 1 rfl (fun _ => rfl) (by assumption) rfl | exact ldM1 2 rfl (fun _ => rfl) (by assumption) rfl | exact ldM1 3 rfl (fun _ => rfl) (by assumption) rfl | exact ldM1 4 rfl (fun _ => rfl) (by assumption) rfl | exact ldM1 5 rfl (fun _ => rfl) (by assumption) rfl)) rfl)) ?_  -- 8:9 cable.go:28 t37 load
          refine J.gQ (Gd.one rfl rfl rfl (.t 2 rfl)) rfl rfl rfl .nil (fun hg => (Q.buildB stb23 (ps := []) .nil rfl (by (repeat (first | exact Bd.nil | (apply Bd.cons rfl rfl rfl (by (repeat constructor); done)))); done))) ?_  -- 8:10 cable.go:28 t38 build
          refine J.gQ (Gd.one rfl rfl rfl (.t 3 rfl)) rfl rfl rfl (.g 1 rfl (.g 0 rfl .nil)) (fun hg => (Q.eqS (.t 0 rfl) (.t 1 rfl) guard23 (by decide) (eqv23 _ _ _ _))) ?_  -- 8:11 cable.go:28 t39 binOp
          refine J.q rfl rfl rfl rfl (Q.and_ (.t 4 rfl) (.t 0 rfl)) ?_  -- 8:12 cable.go:28 t40 pick
          refine J.q rfl rfl rfl rfl (Q.move (.t 0 rfl)) ?_  -- 8:13 cable.go:28 t41 move
          refine J.gQ (Gd.one rfl rfl rfl (.t 0 rfl)) rfl rfl rfl (.p 15 rfl .nil) (fun hg => (Q.fa0 7 Try.underlying40 rfl Try.sizeOf2 rfl rfl (.t 0 rfl))) ?_  -- 8:14 cable.go:28 t42 fieldAddr
          refine J.gQ (Gd.one rfl rfl rfl (.t 1 rfl)) rfl rfl rfl (.g 0 rfl .nil) (fun hg => (Q.load (.t 0 rfl) Try.isAgg2 (by first | (first | exact ldT 1 0 rfl (by repeat constructor) | exact ldTΦ 1 0 rfl (by repeat constructor) | exact ldT 1 1 rfl (by repeat constructor) | exact ldTΦ 1 1 rfl (by repeat constructor) | exact ldT 1 2 rfl (by repeat constructor) | exact ldTΦ 1 2 rfl (by repeat constructor) | exact ldT 1 3 rfl (by repeat constructor) | exact ldTΦ 1 3 rfl (by repeat constructor) | exact ldT 1 4 rfl (by repeat constructor) | exact ldTΦ 1 4 rfl (by repeat constructor) | exact ldT 1 5 rfl (by repeat constructor) | exact ldTΦ 1 5 rfl (by repeat constructor) | exact ldT 1 6 rfl (by repeat constructor) | exact ldO 0 rfl (by assumption) | exact ldO 1 rfl (by assumption) | exact ldO 2 rfl (by assumption) | exact ldO 3 rfl (by assumption) | exact ldOT 1 0 rfl (by assumption) (by repeat constructor) | exact ldOT 1 1 rfl (by assumption) (by repeat constructor) | exact ldOT 1 2 rfl (by assumption) (by repeat constructor) | exact ldOT 1 3 rfl (by assumption) (by repeat constructor)) | (first | exact ldO1 0 rfl (by assumption) rfl | exact ldO1 1 rfl (by assumption) rfl | exact ldO1 2 rfl (by assumption) rfl | exact ldO1 3 rfl (by assumption) rfl | exact ldO1 4 rfl (by assumption) rfl | exact ldO1 5 rfl (by assumption) rfl | exact ldM1 0 rfl (fun _ => rfl) (by assumption) rfl | exact ldM1 1 rfl (fun _ => rfl) (by assumption) rfl | exact ldM1 2 rfl (fun _ => rfl) (by assumption) rfl | exact ldM1 3 rfl (fun _ => rfl) (by assumption) rfl | exact ldM1 4 rfl (fun _ => rfl) (by assumption) rfl | exact ldM1 5 rfl (fun _ => rfl) (by assumption) rfl)))) ?_  -- 8:15 cable.go:28 t43 load
          refine J.gQ (Gd.one rfl rfl rfl (.t 2 rfl)) rfl rfl rfl (.g 0 rfl .nil) (fun hg => (Q.eql (.t 0 rfl) .c)) ?_  -- 8:16 cable.go:28 t44 binOp
          refine J.q rfl rfl rfl rfl (Q.and_ (.t 3 rfl) (.t 0 rfl)) ?_  -- 8:17 cable.go:28 t45 pick
          refine J.q rfl rfl rfl rfl (Q.assign (.t 0 rfl)) ?_  -- 8:18 cable.go:28 t5 assign
          refine J.end_ ?_
          refine C.keep (.cons 0 rfl (.cons 19 rfl (.cons 20 rfl (.cons 21 rfl (.cons 22 rfl (.cons 23 rfl .nil)))))) ?_
          refine C.seq ?_
          refine C.seq ?_
          refine C.reg ?_
          refine J.q rfl rfl rfl rfl (Q.move (.t 0 rfl)) ?_  -- 9:0 cable.go:29 t46 move
          refine J.q rfl rfl rfl rfl (Q.not_ (.t 0 rfl)) ?_  -- 9:1 cable.go:29 t47 unOp
          refine J.q rfl rfl rfl rfl (Q.move (.t 0 rfl)) ?_  -- 9:2 cable.go:29 t48 move
          refine J.gQ (Gd.one rfl rfl rfl (.t 0 rfl)) rfl rfl rfl (.p 4 rfl .nil) (fun hg => (Q.move (.t 0 rfl))) ?_  -- 9:3 cable.go:29 t49 move
          refine J.gQ (Gd.one rfl rfl rfl (.t 1 rfl)) rfl rfl rfl (.g 0 rfl .nil) (fun hg => (Q.eql (.t 0 rfl) .c)) ?_  -- 9:4 cable.go:29 t50 binOp
          refine J.gQ (Gd.one rfl rfl rfl (.t 2 rfl)) rfl rfl rfl (.g 0 rfl .nil) (fun hg => (Q.move (.t 0 rfl))) ?_  -- 9:5 cable.go:29 t51 move
          refine J.gQ (Gd.two rfl rfl rfl (.t 0 rfl)) rfl rfl rfl (.p 8 rfl .nil) (fun hg => (Q.fa0 0 Try.underlying40 rfl Try.sizeOf3 rfl rfl (.t 0 rfl))) ?_  -- 9:6 cable.go:29 t52 fieldAddr
          refine J.gQ (Gd.two rfl rfl rfl (.t 1 rfl)) rfl rfl rfl (.g 0 rfl .nil) (fun hg => (Q.load (.t 0 rfl) Try.isAgg3 (by first | (first | exact ldT 1 0 rfl (by repeat constructor) | exact ldTΦ 1 0 rfl (by repeat constructor) | exact ldT 1 1 rfl (by repeat constructor) | exact ldTΦ 1 1 rfl (by repeat constructor) | exact ldT 1 2 rfl (by repeat constructor) | exact ldTΦ 1 2 rfl (by repeat constructor) | exact ldT 1 3 rfl (by repeat constructor) | exact ldTΦ 1 3 rfl (by repeat constructor) | exact ldT 1 4 rfl (by repeat constructor) | exact ldTΦ 1 4 rfl (by repeat constructor) | exact ldT 1 5 rfl (by repeat constructor) | exact ldTΦ 1 5 rfl (by repeat constructor) | exact ldT 1 6 rfl (by repeat constructor) | exact ldO 0 rfl (by assumption) | exact ldO 1 rfl (by assumption) | exact ldO 2 rfl (by assumption) | exact ldO 3 rfl (by assumption) | exact ldOT 1 0 rfl (by assumption) (by repeat constructor) | exact ldOT 1 1 rfl (by assumption) (by repeat constructor) | exact ldOT 1 2 rfl (by assumption) (by repeat constructor) | exact ldOT 1 3 rfl (by assumption) (by repeat constructor)) | (first | exact ldO1 0 rfl (by assumption) rfl | exact ldO1 1 rfl (by assumption) rfl | exact ldO1 2 rfl (by assumption) rfl | exact ldO1 3 rfl (by assumption) rfl | exact ldO1 4 rfl (by assumption) rfl | exact ldO1 5 rfl (by assumption) rfl | exact ldM1 0 rfl (fun _ => rfl) (by assumption) rfl | exact ldM1 1 rfl (fun _ => rfl) (by assumption) rfl | exact ldM1 2 rfl (fun _ => rfl) (by assumption) rfl | exact ldM1 3 rfl (fun _ => rfl) (by assumption) rfl | exact ldM1 4 rfl (fun _ => rfl) (by assumption) rfl | exact ldM1 5 rfl (fun _ => rfl) (by assumption) rfl)))) ?_  -- 9:7 cable.go:29 t53 load
          refine J.gQ (Gd.two rfl rfl rfl (.t 2 rfl)) rfl rfl rfl (.g 0 rfl .nil) (fun hg => (Q.lss (.t 0 rfl) .c)) ?_  -- 9:8 cable.go:29 t54 binOp
          refine J.gQ (Gd.one rfl rfl rfl (.t 6 rfl)) rfl rfl rfl (.g 3 rfl (.n 0 rfl .nil)) (fun hg => (Q.or_ (.t 0 rfl) (.t 1 rfl))) ?_  -- 9:9 cable.go:29 t55 pick
          refine J.gQ (Gd.one rfl rfl rfl (.t 7 rfl)) rfl rfl rfl (.g 0 rfl .nil) (fun hg => (Q.move (.t 0 rfl))) ?_  -- 9:10 cable.go:29 t56 move
          refine J.gQ (Gd.two rfl rfl rfl (.t 0 rfl)) rfl rfl rfl (.p 13 rfl .nil) (fun hg => (Q.fa0 0 Try.underlying40 rfl Try.sizeOf3 rfl rfl (.t 0 rfl))) ?_  -- 9:11 cable.go:29 t57 fieldAddr
          refine J.gQ (Gd.two rfl rfl rfl (.t 1 rfl)) rfl rfl rfl (.g 0 rfl .nil) (fun hg => (Q.load (.t 0 rfl) Try.isAgg3 (by first | (first | exact ldT 1 0 rfl (by repeat constructor) | exact ldTΦ 1 0 rfl (by repeat constructor) | exact ldT 1 1 rfl (by repeat constructor) | exact ldTΦ 1 1 rfl (by repeat constructor) | exact ldT 1 2 rfl (by repeat constructor) | exact ldTΦ 1 2 rfl (by repeat constructor) | exact ldT 1 3 rfl (by repeat constructor) | exact ldTΦ 1 3 rfl (by repeat constructor) | exact ldT 1 4 rfl (by repeat constructor) | exact ldTΦ 1 4 rfl (by repeat constructor) | exact ldT 1 5 rfl (by repeat constructor) | exact ldTΦ 1 5 rfl (by repeat constructor) | exact ldT 1 6 rfl (by repeat constructor) | exact ldO 0 rfl (by assumption) | exact ldO 1 rfl (by assumption) | exact ldO 2 rfl (by assumption) | exact ldO 3 rfl (by assumption) | exact ldOT 1 0 rfl (by assumption) (by repeat constructor) | exact ldOT 1 1 rfl (by assumption) (by repeat constructor) | exact ldOT 1 2 rfl (by assumption) (by repeat constructor) | exact ldOT 1 3 rfl (by assumption) (by repeat constructor)) | (first | exact ldO1 0 rfl (by assumption) rfl | exact ldO1 1 rfl (by assumption) rfl | exact ldO1 2 rfl (by assumption) rfl | exact ldO1 3 rfl (by assumption) rfl | exact ldO1 4 rfl (by assumption) rfl | exact ldO1 5 rfl (by assumption) rfl | exact ldM1 0 rfl (fun _ => rfl) (by assumption) rfl | exact ldM1 1 rfl (fun _ => rfl) (by assumption) rfl | exact ldM1 2 rfl (fun _ => rfl) (by assumption) rfl | exact ldM1 3 rfl (fun _ => rfl) (by assumption) rfl | exact ldM1 4 rfl (fun _ => rfl) (by assumption) rfl | exact ldM1 5 rfl (fun _ => rfl) (by assumption) rfl)))) ?_  -- 9:12 cable.go:29 t58 load
          refine J.gQ (Gd.two rfl rfl rfl (.t 2 rfl)) rfl rfl rfl (.p 14 rfl .nil) (fun hg => (Q.move (.t 0 rfl))) ?_  -- 9:13 cable.go:29 t59 move
          refine J.gQ (Gd.two rfl rfl rfl (.t 3 rfl)) rfl rfl rfl (.g 1 rfl (.g 0 rfl .nil)) (fun hg => (Q.geq (.t 0 rfl) (.t 1 rfl))) ?_  -- 9:14 cable.go:29 t60 binOp
          refine J.gQ (Gd.one rfl rfl rfl (.t 12 rfl)) rfl rfl rfl (.g 4 rfl (.n 0 rfl .nil)) (fun hg => (Q.or_ (.t 0 rfl) (.t 1 rfl))) ?_  -- 9:15 cable.go:29 t61 pick
          refine J.q rfl rfl rfl rfl (Q.and_ (.t 13 rfl) (.t 0 rfl)) ?_  -- 9:16 cable.go:29 t62 pick
          refine J.end_ ?_
          refine C.keep (.cons 0 rfl (.cons 19 rfl (.cons 20 rfl (.cons 21 rfl (.cons 22 rfl .nil))))) ?_
          refine C.cond (.t 0 rfl) (fun c3 => ?_) (fun c3 => ?_)  -- cond 3
          ·
            refine C.seq ?_
            refine C.reg ?_
            refine J.q rfl rfl rfl rfl (Q.assign .c) ?_  -- 10:0 cable.go:30 t2 assign
            refine J.end_ ?_
            refine C.keep (.cons 0 rfl .nil) ?_
            refine C.ret ?_
            refine X.thenRet ?_
            refine X.inRet ?_
            refine X.thenRet ?_
            refine X.thenRet ?_
            refine X.inRet ?_
            refine X.thenRet ?_
            refine X.ret1 rfl 0 rfl (fun w hA => ?_)
            exact PostV.eq hA (by rw [check_bad c0' hx (by grind [Nd.good])])
          ·
            refine C.skip ?_
            refine X.go ?_
            refine C.keep (.cons 1 rfl (.cons 2 rfl (.cons 3 rfl (.cons 4 rfl .nil)))) ?_
            refine C.seq ?_
            refine C.seq ?_
            refine C.reg ?_
            refine J.q rfl rfl rfl rfl (Q.fa0 1 Try.underlying40 rfl Try.sizeOf23 rfl rfl (.t 0 rfl)) ?_  -- 11:0 cable.go:32 t63 fieldAddr
            refine J.q rfl rfl rfl rfl (Q.loadsV (.t 0 rfl) ⟨Try.isAgg23, Try.sizeOf23⟩ (by first | (first | exact ldT 2 0 rfl (by repeat constructor) | exact ldTΦ 2 0 rfl (by repeat constructor) | exact ldT 2 1 rfl (by repeat constructor) | exact ldTΦ 2 1 rfl (by repeat constructor) | exact ldT 2 2 rfl (by repeat constructor) | exact ldTΦ 2 2 rfl (by repeat constructor) | exact ldT 2 3 rfl (by repeat constructor) | exact ldTΦ 2 3 rfl (by repeat constructor) | exact ldT 2 4 rfl (by repeat constructor) | exact ldTΦ 2 4 rfl (by repeat constructor) | exact ldT 2 5 rfl (by repeat constructor) | exact ldTΦ 2 5 rfl (by repeat constructor) | exact ldT 2 6 rfl (by repeat constructor) | exact ldO 0 rfl (by assumption) | exact ldO 1 rfl (by assumption) | exact ldO 2 rfl (by assumption) | exact ldO 3 rfl (by assumption) | exact ldOT 2 0 rfl (by assumption) (by repeat constructor) | exact ldOT 2 1 rfl (by assumption) (by repeat constructor) | exact ldOT 2 2 rfl (by assumption) (by repeat constructor) | exact ldOT 2 3 rfl (by assumption) (by repeat constructor)) | (first | exact ldO1 0 rfl (by assumption) rfl | exact ldO1 1 rfl (by assumption) rfl | exact ldO1 2 rfl (by assumption) rfl | exact ldO1 3 rfl (by assumption) rfl | exact ldO1 4 rfl (by assumption) rfl | exact ldO1 5 rfl (by assumption) rfl | exact ldM1 0 rfl (fun _ => rfl) (by assumption) rfl | exact ldM1 1 rfl (fun _ => rfl) (by assumption) rfl | exact ldM1 2 rfl (fun _ => rfl) (by assumption) rfl | exact ldM1 3 rfl (fun _ => rfl) (by assumption) rfl | exact ldM1 4 rfl (fun _ => rfl) (by assumption) rfl | exact ldM1 5 rfl (fun _ => rfl) (by assumption) rfl)) rfl) ?_  -- 11:1 cable.go:32 t64 load
            refine J.callV rfl rfl rfl rfl (run_static Try.call61 .f (.cons (.t 0 rfl) (.cons .c (.cons .c .nil))) rfl) (fun w hA => inRange_calls w n.ohms 0 16777216) ?_  -- 11:2 cable.go:32 t65 call
            refine J.q rfl rfl rfl rfl (Q.not_ (.t 0 rfl)) ?_  -- 11:3 cable.go:32 t66 unOp
            refine J.q rfl rfl rfl rfl (Q.move (.t 0 rfl)) ?_  -- 11:4 cable.go:32 t67 move
            refine J.gQ (Gd.one rfl rfl rfl (.t 0 rfl)) rfl rfl rfl (.p 5 rfl .nil) (fun hg => (Q.fa0 4 Try.underlying40 rfl Try.sizeOf23 rfl rfl (.t 0 rfl))) ?_  -- 11:5 cable.go:32 t68 fieldAddr
            refine J.gQ (Gd.one rfl rfl rfl (.t 1 rfl)) rfl rfl rfl (.g 0 rfl .nil) (fun hg => (Q.loadsV (.t 0 rfl) ⟨Try.isAgg23, Try.sizeOf23⟩ (by first | (first | exact ldT 2 0 rfl (by repeat constructor) | exact ldTΦ 2 0 rfl (by repeat constructor) | exact ldT 2 1 rfl (by repeat constructor) | exact ldTΦ 2 1 rfl (by repeat constructor) | exact ldT 2 2 rfl (by repeat constructor) | exact ldTΦ 2 2 rfl (by repeat constructor) | exact ldT 2 3 rfl (by repeat constructor) | exact ldTΦ 2 3 rfl (by repeat constructor) | exact ldT 2 4 rfl (by repeat constructor) | exact ldTΦ 2 4 rfl (by repeat constructor) | exact ldT 2 5 rfl (by repeat constructor) | exact ldTΦ 2 5 rfl (by repeat constructor) | exact ldT 2 6 rfl (by repeat constructor) | exact ldO 0 rfl (by assumption) | exact ldO 1 rfl (by assumption) | exact ldO 2 rfl (by assumption) | exact ldO 3 rfl (by assumption) | exact ldOT 2 0 rfl (by assumption) (by repeat constructor) | exact ldOT 2 1 rfl (by assumption) (by repeat constructor) | exact ldOT 2 2 rfl (by assumption) (by repeat constructor) | exact ldOT 2 3 rfl (by assumption) (by repeat constructor)) | (first | exact ldO1 0 rfl (by assumption) rfl | exact ldO1 1 rfl (by assumption) rfl | exact ldO1 2 rfl (by assumption) rfl | exact ldO1 3 rfl (by assumption) rfl | exact ldO1 4 rfl (by assumption) rfl | exact ldO1 5 rfl (by assumption) rfl | exact ldM1 0 rfl (fun _ => rfl) (by assumption) rfl | exact ldM1 1 rfl (fun _ => rfl) (by assumption) rfl | exact ldM1 2 rfl (fun _ => rfl) (by assumption) rfl | exact ldM1 3 rfl (fun _ => rfl) (by assumption) rfl | exact ldM1 4 rfl (fun _ => rfl) (by assumption) rfl | exact ldM1 5 rfl (fun _ => rfl) (by assumption) rfl)) rfl)) ?_  -- 11:6 cable.go:32 t69 load
            refine J.gCall (Gd.one rfl rfl rfl (.t 2 rfl)) rfl rfl rfl (.g 0 rfl .nil) (run_static Try.call61 .f (.cons (.t 0 rfl) (.cons .c (.cons .c .nil))) rfl) (fun hg w hA => inRange_calls w n.load 0 65536) ?_  -- 11:7 cable.go:32 t70 call
            refine J.gQ (Gd.one rfl rfl rfl (.t 3 rfl)) rfl rfl rfl (.g 0 rfl .nil) (fun hg => (Q.not_ (.t 0 rfl))) ?_  -- 11:8 cable.go:32 t71 unOp
            refine J.q rfl rfl rfl rfl (Q.or_ (.t 4 rfl) (.t 0 rfl)) ?_  -- 11:9 cable.go:32 t72 pick
            refine J.end_ ?_
            refine C.keep (.cons 0 rfl (.cons 10 rfl (.cons 11 rfl (.cons 12 rfl (.cons 13 rfl .nil))))) ?_
            refine C.cond (.t 0 rfl) (fun c4 => ?_) (fun c4 => ?_)  -- cond 4
            ·
              refine C.seq ?_
              refine C.reg ?_
              refine J.q rfl rfl rfl rfl (Q.assign .c) ?_  -- 12:0 cable.go:33 t2 assign
              refine J.end_ ?_
              refine C.keep (.cons 0 rfl .nil) ?_
              refine C.ret ?_
              refine X.thenRet ?_
              refine X.inRet ?_
              refine X.thenRet ?_
              refine X.thenRet ?_
              refine X.inRet ?_
              refine X.thenRet ?_
              refine X.ret1 rfl 0 rfl (fun w hA => ?_)
              exact PostV.eq hA (by rw [check_bad c0' hx (by grind [Nd.good])])
            ·
              refine C.skip ?_
              refine X.go ?_
              refine C.keep (.cons 1 rfl (.cons 2 rfl (.cons 3 rfl (.cons 4 rfl .nil)))) ?_
              refine C.seq ?_
              refine C.reg ?_
              refine J.q rfl rfl rfl rfl (Q.fa0 3 Try.underlying40 rfl Try.sizeOf2 rfl rfl (.t 0 rfl)) ?_  -- 13:0 cable.go:35 t73 fieldAddr
              refine J.q rfl rfl rfl rfl (Q.load (.t 0 rfl) Try.isAgg2 (by first | (first | exact ldT 1 0 rfl (by repeat constructor) | exact ldTΦ 1 0 rfl (by repeat constructor) | exact ldT 1 1 rfl (by repeat constructor) | exact ldTΦ 1 1 rfl (by repeat constructor) | exact ldT 1 2 rfl (by repeat constructor) | exact ldTΦ 1 2 rfl (by repeat constructor) | exact ldT 1 3 rfl (by repeat constructor) | exact ldTΦ 1 3 rfl (by repeat constructor) | exact ldT 1 4 rfl (by repeat constructor) | exact ldTΦ 1 4 rfl (by repeat constructor) | exact ldT 1 5 rfl (by repeat constructor) | exact ldTΦ 1 5 rfl (by repeat constructor) | exact ldT 1 6 rfl (by repeat constructor) | exact ldO 0 rfl (by assumption) | exact ldO 1 rfl (by assumption) | exact ldO 2 rfl (by assumption) | exact ldO 3 rfl (by assumption) | exact ldOT 1 0 rfl (by assumption) (by repeat constructor) | exact ldOT 1 1 rfl (by assumption) (by repeat constructor) | exact ldOT 1 2 rfl (by assumption) (by repeat constructor) | exact ldOT 1 3 rfl (by assumption) (by repeat constructor)) | (first | exact ldO1 0 rfl (by assumption) rfl | exact ldO1 1 rfl (by assumption) rfl | exact ldO1 2 rfl (by assumption) rfl | exact ldO1 3 rfl (by assumption) rfl | exact ldO1 4 rfl (by assumption) rfl | exact ldO1 5 rfl (by assumption) rfl | exact ldM1 0 rfl (fun _ => rfl) (by assumption) rfl | exact ldM1 1 rfl (fun _ => rfl) (by assumption) rfl | exact ldM1 2 rfl (fun _ => rfl) (by assumption) rfl | exact ldM1 3 rfl (fun _ => rfl) (by assumption) rfl | exact ldM1 4 rfl (fun _ => rfl) (by assumption) rfl | exact ldM1 5 rfl (fun _ => rfl) (by assumption) rfl))) ?_  -- 13:1 cable.go:35 t74 load
              refine J.q rfl rfl rfl rfl (Q.lss (.t 0 rfl) .c) ?_  -- 13:2 cable.go:35 t75 binOp
              refine J.q rfl rfl rfl rfl (Q.move (.t 0 rfl)) ?_  -- 13:3 cable.go:35 t76 move
              refine J.gQ (Gd.one rfl rfl rfl (.t 0 rfl)) rfl rfl rfl (.p 4 rfl .nil) (fun hg => (Q.fa0 3 Try.underlying40 rfl Try.sizeOf2 rfl rfl (.t 0 rfl))) ?_  -- 13:4 cable.go:35 t77 fieldAddr
              refine J.gQ (Gd.one rfl rfl rfl (.t 1 rfl)) rfl rfl rfl (.g 0 rfl .nil) (fun hg => (Q.load (.t 0 rfl) Try.isAgg2 (by first | (first | exact ldT 1 0 rfl (by repeat constructor) | exact ldTΦ 1 0 rfl (by repeat constructor) | exact ldT 1 1 rfl (by repeat constructor) | exact ldTΦ 1 1 rfl (by repeat constructor) | exact ldT 1 2 rfl (by repeat constructor) | exact ldTΦ 1 2 rfl (by repeat constructor) | exact ldT 1 3 rfl (by repeat constructor) | exact ldTΦ 1 3 rfl (by repeat constructor) | exact ldT 1 4 rfl (by repeat constructor) | exact ldTΦ 1 4 rfl (by repeat constructor) | exact ldT 1 5 rfl (by repeat constructor) | exact ldTΦ 1 5 rfl (by repeat constructor) | exact ldT 1 6 rfl (by repeat constructor) | exact ldO 0 rfl (by assumption) | exact ldO 1 rfl (by assumption) | exact ldO 2 rfl (by assumption) | exact ldO 3 rfl (by assumption) | exact ldOT 1 0 rfl (by assumption) (by repeat constructor) | exact ldOT 1 1 rfl (by assumption) (by repeat constructor) | exact ldOT 1 2 rfl (by assumption) (by repeat constructor) | exact ldOT 1 3 rfl (by assumption) (by repeat constructor)) | (first | exact ldO1 0 rfl (by assumption) rfl | exact ldO1 1 rfl (by assumption) rfl | exact ldO1 2 rfl (by assumption) rfl | exact ldO1 3 rfl (by assumption) rfl | exact ldO1 4 rfl (by assumption) rfl | exact ldO1 5 rfl (by assumption) rfl | exact ldM1 0 rfl (fun _ => rfl) (by assumption) rfl | exact ldM1 1 rfl (fun _ => rfl) (by assumption) rfl | exact ldM1 2 rfl (fun _ => rfl) (by assumption) rfl | exact ldM1 3 rfl (fun _ => rfl) (by assumption) rfl | exact ldM1 4 rfl (fun _ => rfl) (by assumption) rfl | exact ldM1 5 rfl (fun _ => rfl) (by assumption) rfl)))) ?_  -- 13:5 cable.go:35 t78 load
              refine J.gQ (Gd.one rfl rfl rfl (.t 2 rfl)) rfl rfl rfl (.g 0 rfl .nil) (fun hg => (Q.gtr (.t 0 rfl) .c)) ?_  -- 13:6 cable.go:35 t79 binOp
              refine J.q rfl rfl rfl rfl (Q.or_ (.t 3 rfl) (.t 0 rfl)) ?_  -- 13:7 cable.go:35 t80 pick
              refine J.q rfl rfl rfl rfl (Q.move (.t 0 rfl)) ?_  -- 13:8 cable.go:35 t81 move
              refine J.gQ (Gd.one rfl rfl rfl (.t 0 rfl)) rfl rfl rfl (.p 9 rfl .nil) (fun hg => (Q.fa0 6 Try.underlying40 rfl Try.sizeOf2 rfl rfl (.t 0 rfl))) ?_  -- 13:9 cable.go:35 t82 fieldAddr
              refine J.gQ (Gd.one rfl rfl rfl (.t 1 rfl)) rfl rfl rfl (.g 0 rfl .nil) (fun hg => (Q.load (.t 0 rfl) Try.isAgg2 (by first | (first | exact ldT 1 0 rfl (by repeat constructor) | exact ldTΦ 1 0 rfl (by repeat constructor) | exact ldT 1 1 rfl (by repeat constructor) | exact ldTΦ 1 1 rfl (by repeat constructor) | exact ldT 1 2 rfl (by repeat constructor) | exact ldTΦ 1 2 rfl (by repeat constructor) | exact ldT 1 3 rfl (by repeat constructor) | exact ldTΦ 1 3 rfl (by repeat constructor) | exact ldT 1 4 rfl (by repeat constructor) | exact ldTΦ 1 4 rfl (by repeat constructor) | exact ldT 1 5 rfl (by repeat constructor) | exact ldTΦ 1 5 rfl (by repeat constructor) | exact ldT 1 6 rfl (by repeat constructor) | exact ldO 0 rfl (by assumption) | exact ldO 1 rfl (by assumption) | exact ldO 2 rfl (by assumption) | exact ldO 3 rfl (by assumption) | exact ldOT 1 0 rfl (by assumption) (by repeat constructor) | exact ldOT 1 1 rfl (by assumption) (by repeat constructor) | exact ldOT 1 2 rfl (by assumption) (by repeat constructor) | exact ldOT 1 3 rfl (by assumption) (by repeat constructor)) | (first | exact ldO1 0 rfl (by assumption) rfl | exact ldO1 1 rfl (by assumption) rfl | exact ldO1 2 rfl (by assumption) rfl | exact ldO1 3 rfl (by assumption) rfl | exact ldO1 4 rfl (by assumption) rfl | exact ldO1 5 rfl (by assumption) rfl | exact ldM1 0 rfl (fun _ => rfl) (by assumption) rfl | exact ldM1 1 rfl (fun _ => rfl) (by assumption) rfl | exact ldM1 2 rfl (fun _ => rfl) (by assumption) rfl | exact ldM1 3 rfl (fun _ => rfl) (by assumption) rfl | exact ldM1 4 rfl (fun _ => rfl) (by assumption) rfl | exact ldM1 5 rfl (fun _ => rfl) (by assumption) rfl)))) ?_  -- 13:10 cable.go:35 t83 load
              refine J.gQ (Gd.one rfl rfl rfl (.t 2 rfl)) rfl rfl rfl (.g 0 rfl .nil) (fun hg => (Q.lss (.t 0 rfl) .c)) ?_  -- 13:11 cable.go:35 t84 binOp
              refine J.q rfl rfl rfl rfl (Q.or_ (.t 3 rfl) (.t 0 rfl)) ?_  -- 13:12 cable.go:35 t85 pick
              refine J.q rfl rfl rfl rfl (Q.move (.t 0 rfl)) ?_  -- 13:13 cable.go:35 t86 move
              refine J.gQ (Gd.one rfl rfl rfl (.t 0 rfl)) rfl rfl rfl (.p 14 rfl .nil) (fun hg => (Q.fa0 6 Try.underlying40 rfl Try.sizeOf2 rfl rfl (.t 0 rfl))) ?_  -- 13:14 cable.go:35 t87 fieldAddr
              refine J.gQ (Gd.one rfl rfl rfl (.t 1 rfl)) rfl rfl rfl (.g 0 rfl .nil) (fun hg => (Q.load (.t 0 rfl) Try.isAgg2 (by first | (first | exact ldT 1 0 rfl (by repeat constructor) | exact ldTΦ 1 0 rfl (by repeat constructor) | exact ldT 1 1 rfl (by repeat constructor) | exact ldTΦ 1 1 rfl (by repeat constructor) | exact ldT 1 2 rfl (by repeat constructor) | exact ldTΦ 1 2 rfl (by repeat constructor) | exact ldT 1 3 rfl (by repeat constructor) | exact ldTΦ 1 3 rfl (by repeat constructor) | exact ldT 1 4 rfl (by repeat constructor) | exact ldTΦ 1 4 rfl (by repeat constructor) | exact ldT 1 5 rfl (by repeat constructor) | exact ldTΦ 1 5 rfl (by repeat constructor) | exact ldT 1 6 rfl (by repeat constructor) | exact ldO 0 rfl (by assumption) | exact ldO 1 rfl (by assumption) | exact ldO 2 rfl (by assumption) | exact ldO 3 rfl (by assumption) | exact ldOT 1 0 rfl (by assumption) (by repeat constructor) | exact ldOT 1 1 rfl (by assumption) (by repeat constructor) | exact ldOT 1 2 rfl (by assumption) (by repeat constructor) | exact ldOT 1 3 rfl (by assumption) (by repeat constructor)) | (first | exact ldO1 0 rfl (by assumption) rfl | exact ldO1 1 rfl (by assumption) rfl | exact ldO1 2 rfl (by assumption) rfl | exact ldO1 3 rfl (by assumption) rfl | exact ldO1 4 rfl (by assumption) rfl | exact ldO1 5 rfl (by assumption) rfl | exact ldM1 0 rfl (fun _ => rfl) (by assumption) rfl | exact ldM1 1 rfl (fun _ => rfl) (by assumption) rfl | exact ldM1 2 rfl (fun _ => rfl) (by assumption) rfl | exact ldM1 3 rfl (fun _ => rfl) (by assumption) rfl | exact ldM1 4 rfl (fun _ => rfl) (by assumption) rfl | exact ldM1 5 rfl (fun _ => rfl) (by assumption) rfl)))) ?_  -- 13:15 cable.go:35 t88 load
              refine J.gQ (Gd.one rfl rfl rfl (.t 2 rfl)) rfl rfl rfl (.g 0 rfl .nil) (fun hg => (Q.gtr (.t 0 rfl) .c)) ?_  -- 13:16 cable.go:35 t89 binOp
              refine J.q rfl rfl rfl rfl (Q.or_ (.t 3 rfl) (.t 0 rfl)) ?_  -- 13:17 cable.go:35 t90 pick
              refine J.q rfl rfl rfl rfl (Q.move (.t 0 rfl)) ?_  -- 13:18 cable.go:35 t91 move
              refine J.gQ (Gd.one rfl rfl rfl (.t 0 rfl)) rfl rfl rfl (.p 19 rfl .nil) (fun hg => (Q.fa0 7 Try.underlying40 rfl Try.sizeOf2 rfl rfl (.t 0 rfl))) ?_  -- 13:19 cable.go:35 t92 fieldAddr
              refine J.gQ (Gd.one rfl rfl rfl (.t 1 rfl)) rfl rfl rfl (.g 0 rfl .nil) (fun hg => (Q.load (.t 0 rfl) Try.isAgg2 (by first | (first | exact ldT 1 0 rfl (by repeat constructor) | exact ldTΦ 1 0 rfl (by repeat constructor) | exact ldT 1 1 rfl (by repeat constructor) | exact ldTΦ 1 1 rfl (by repeat constructor) | exact ldT 1 2 rfl (by repeat constructor) | exact ldTΦ 1 2 rfl (by repeat constructor) | exact ldT 1 3 rfl (by repeat constructor) | exact ldTΦ 1 3 rfl (by repeat constructor) | exact ldT 1 4 rfl (by repeat constructor) | exact ldTΦ 1 4 rfl (by repeat constructor) | exact ldT 1 5 rfl (by repeat constructor) | exact ldTΦ 1 5 rfl (by repeat constructor) | exact ldT 1 6 rfl (by repeat constructor) | exact ldO 0 rfl (by assumption) | exact ldO 1 rfl (by assumption) | exact ldO 2 rfl (by assumption) | exact ldO 3 rfl (by assumption) | exact ldOT 1 0 rfl (by assumption) (by repeat constructor) | exact ldOT 1 1 rfl (by assumption) (by repeat constructor) | exact ldOT 1 2 rfl (by assumption) (by repeat constructor) | exact ldOT 1 3 rfl (by assumption) (by repeat constructor)) | (first | exact ldO1 0 rfl (by assumption) rfl | exact ldO1 1 rfl (by assumption) rfl | exact ldO1 2 rfl (by assumption) rfl | exact ldO1 3 rfl (by assumption) rfl | exact ldO1 4 rfl (by assumption) rfl | exact ldO1 5 rfl (by assumption) rfl | exact ldM1 0 rfl (fun _ => rfl) (by assumption) rfl | exact ldM1 1 rfl (fun _ => rfl) (by assumption) rfl | exact ldM1 2 rfl (fun _ => rfl) (by assumption) rfl | exact ldM1 3 rfl (fun _ => rfl) (by assumption) rfl | exact ldM1 4 rfl (fun _ => rfl) (by assumption) rfl | exact ldM1 5 rfl (fun _ => rfl) (by assumption) rfl)))) ?_  -- 13:20 cable.go:35 t93 load
              refine J.gQ (Gd.one rfl rfl rfl (.t 2 rfl)) rfl rfl rfl (.g 0 rfl .nil) (fun hg => (Q.lss (.t 0 rfl) .c)) ?_  -- 13:21 cable.go:35 t94 binOp
              refine J.q rfl rfl rfl rfl (Q.or_ (.t 3 rfl) (.t 0 rfl)) ?_  -- 13:22 cable.go:35 t95 pick
              refine J.q rfl rfl rfl rfl (Q.move (.t 0 rfl)) ?_  -- 13:23 cable.go:35 t96 move
              refine J.gQ (Gd.one rfl rfl rfl (.t 0 rfl)) rfl rfl rfl (.p 24 rfl .nil) (fun hg => (Q.fa0 7 Try.underlying40 rfl Try.sizeOf2 rfl rfl (.t 0 rfl))) ?_  -- 13:24 cable.go:35 t97 fieldAddr
              refine J.gQ (Gd.one rfl rfl rfl (.t 1 rfl)) rfl rfl rfl (.g 0 rfl .nil) (fun hg => (Q.load (.t 0 rfl) Try.isAgg2 (by first | (first | exact ldT 1 0 rfl (by repeat constructor) | exact ldTΦ 1 0 rfl (by repeat constructor) | exact ldT 1 1 rfl (by repeat constructor) | exact ldTΦ 1 1 rfl (by repeat constructor) | exact ldT 1 2 rfl (by repeat constructor) | exact ldTΦ 1 2 rfl (by repeat constructor) | exact ldT 1 3 rfl (by repeat constructor) | exact ldTΦ 1 3 rfl (by repeat constructor) | exact ldT 1 4 rfl (by repeat constructor) | exact ldTΦ 1 4 rfl (by repeat constructor) | exact ldT 1 5 rfl (by repeat constructor) | exact ldTΦ 1 5 rfl (by repeat constructor) | exact ldT 1 6 rfl (by repeat constructor) | exact ldO 0 rfl (by assumption) | exact ldO 1 rfl (by assumption) | exact ldO 2 rfl (by assumption) | exact ldO 3 rfl (by assumption) | exact ldOT 1 0 rfl (by assumption) (by repeat constructor) | exact ldOT 1 1 rfl (by assumption) (by repeat constructor) | exact ldOT 1 2 rfl (by assumption) (by repeat constructor) | exact ldOT 1 3 rfl (by assumption) (by repeat constructor)) | (first | exact ldO1 0 rfl (by assumption) rfl | exact ldO1 1 rfl (by assumption) rfl | exact ldO1 2 rfl (by assumption) rfl | exact ldO1 3 rfl (by assumption) rfl | exact ldO1 4 rfl (by assumption) rfl | exact ldO1 5 rfl (by assumption) rfl | exact ldM1 0 rfl (fun _ => rfl) (by assumption) rfl | exact ldM1 1 rfl (fun _ => rfl) (by assumption) rfl | exact ldM1 2 rfl (fun _ => rfl) (by assumption) rfl | exact ldM1 3 rfl (fun _ => rfl) (by assumption) rfl | exact ldM1 4 rfl (fun _ => rfl) (by assumption) rfl | exact ldM1 5 rfl (fun _ => rfl) (by assumption) rfl)))) ?_  -- 13:25 cable.go:35 t98 load
              refine J.gQ (Gd.one rfl rfl rfl (.t 2 rfl)) rfl rfl rfl (.g 0 rfl .nil) (fun hg => (Q.gtr (.t 0 rfl) .c)) ?_  -- 13:26 cable.go:35 t99 binOp
              refine J.q rfl rfl rfl rfl (Q.or_ (.t 3 rfl) (.t 0 rfl)) ?_  -- 13:27 cable.go:35 t100 pick
              refine J.end_ ?_
              refine C.keep (.cons 0 rfl (.cons 29 rfl (.cons 30 rfl (.cons 31 rfl .nil)))) ?_
              refine C.cond (.t 0 rfl) (fun c5 => ?_) (fun c5 => ?_)  -- cond 5
              ·
                refine C.seq ?_
                refine C.reg ?_
                refine J.q rfl rfl rfl rfl (Q.assign .c) ?_  -- 14:0 cable.go:36 t2 assign
                refine J.end_ ?_
                refine C.keep (.cons 0 rfl .nil) ?_
                refine C.ret ?_
                refine X.inRet ?_
                refine X.thenRet ?_
                refine X.thenRet ?_
                refine X.inRet ?_
                refine X.thenRet ?_
                refine X.ret1 rfl 0 rfl (fun w hA => ?_)
                exact PostV.eq hA (by rw [check_bad c0' hx (by grind [Nd.good])])
              ·
                refine C.skip ?_
                refine X.inNormal ?_
                refine X.go ?_
                refine C.keep (.cons 1 rfl (.cons 2 rfl (.cons 3 rfl .nil))) ?_
                refine C.reg ?_
                refine J.q rfl rfl rfl rfl (Q.add (.t 0 rfl) .c (by omega)) ?_  -- 15:0 cable.go:27 t101 binOp
                refine J.keep (.cons 0 rfl (.cons 2 rfl (.cons 3 rfl .nil))) ?_
                refine J.q rfl rfl rfl rfl (Q.move (.t 0 rfl)) ?_  -- 15:1 cable.go:27 t23 move
                refine J.done ?_
                refine X.nx (⟨i + 1, by omega, by intro j m hm hj; rcases Nat.lt_succ_iff_lt_or_eq.1 hj with h | h; exact hg j m hm h; subst h; rw [hx] at hm; cases hm; exact Nd.good_of c3 c4 c5⟩) (.cons 0 (by (first | rfl | (simp; done))) (.cons 2 (by (first | rfl | (simp; done))) (.cons 3 (by (first | rfl | (simp; done))) .nil))) ?_ ?_
                ·
                  exact fun _ h => h.dropM
                ·
                  simp; omega
        ·
          simp only [decide_eq_true_eq, decide_eq_false_iff_not, Bool.and_eq_true, Bool.or_eq_true, Bool.and_eq_false_iff, Bool.or_eq_false_iff, Bool.not_eq_true', Bool.not_eq_false', beq_iff_eq, bne_iff_ne, Int.not_lt, Int.not_le, Decidable.not_not, ne_eq] at c2
          refine C.exit ?_
          refine X.thenExit ?_
          refine X.thenExit ?_
          refine X.inHit ?_
          refine X.go ?_
          refine C.keep .nil ?_
          refine C.seq ?_
          refine C.reg ?_
          refine J.q rfl rfl rfl rfl (Q.assign .c) ?_  -- 16:0 cable.go:39 t2 assign
          refine J.end_ ?_
          refine C.ret ?_
          refine X.ret1 rfl 0 rfl (fun w hA => ?_)
          exact PostV.eq hA (by rw [check_ok c0' (by grind) (fun j m hm => hg j m hm (by have := (List.getElem?_eq_some_iff.1 hm).1; omega))])

end Go.Proofs
namespace Go.Proofs
open Go Go.J Go.RowKit Go.Cab
set_option maxRecDepth 4096
set_option linter.unusedSimpArgs false
set_option linter.unusedVariables false
theorem inf33 : Inf Try.prog 33 [.slice none 0 0] 24 := ⟨Try.t33, .slice none 0 0, by kernel_rfl, by kernel_rfl, rfl, rfl, rfl⟩
theorem stb82 : StB Try.prog 82 [.int .i64 0, .int .i64 0, .slice none 0 0, .slice none 0 0] [(0, 3), (3, 1)] := .struct Try.t82 (by kernel_rfl) (by kernel_rfl) Try.underlying82 (by kernel_rfl)

theorem open_bad (w : World) (c : Cable) (a : Option Addr) (cc : Nat) (hr : (rowO a 8 Nd.enc c.nodes).ok w) (h : c.check ≠ 0) : Calls Try.prog 23 [.agg (c.cells a cc).toArray].toArray w (PostV (.tuple [.pointer none, .int .i64 c.check].toArray) w) := by
  refine Calls.enter Try.func23 rfl rfl rfl ?_
  refine C.conseq (A' := St w no [] [rowO _ 8 Nd.enc c.nodes]) (fun _ e => by subst e; exact St.init _ _ (by simpa using hr)) ?_
  refine C.seq ?_
  refine C.reg ?_
  refine J.box rfl rfl rfl rfl (.t 0 rfl) rfl ?_; intro b1 hb1  -- 0:0 cable.go:49 t1 box
  refine J.q rfl rfl rfl rfl (Q.assign .c) ?_  -- 0:1 cable.go:49 t2 assign
  refine J.q rfl rfl rfl rfl (Q.assign .c) ?_  -- 0:2 cable.go:49 t3 assign
  refine J.end_ ?_
  refine C.keep (.cons 2 rfl .nil) ?_
  refine C.seq ?_
  refine C.seq ?_
  refine C.reg ?_
  refine J.q rfl rfl rfl rfl (Q.loadsV (.t 0 rfl) ⟨Try.isAgg26, Try.sizeOf26⟩ (by first | (first | exact ldT 3 0 rfl (by repeat constructor) | exact ldTΦ 3 0 rfl (by repeat constructor) | exact ldT 3 1 rfl (by repeat constructor) | exact ldTΦ 3 1 rfl (by repeat constructor) | exact ldT 3 2 rfl (by repeat constructor) | exact ldTΦ 3 2 rfl (by repeat constructor) | exact ldT 3 3 rfl (by repeat constructor) | exact ldTΦ 3 3 rfl (by repeat constructor) | exact ldT 3 4 rfl (by repeat constructor) | exact ldTΦ 3 4 rfl (by repeat constructor) | exact ldT 3 5 rfl (by repeat constructor) | exact ldTΦ 3 5 rfl (by repeat constructor) | exact ldT 3 6 rfl (by repeat constructor) | exact ldO 0 rfl (by assumption) | exact ldO 1 rfl (by assumption) | exact ldO 2 rfl (by assumption) | exact ldO 3 rfl (by assumption) | exact ldOT 3 0 rfl (by assumption) (by repeat constructor) | exact ldOT 3 1 rfl (by assumption) (by repeat constructor) | exact ldOT 3 2 rfl (by assumption) (by repeat constructor) | exact ldOT 3 3 rfl (by assumption) (by repeat constructor)) | (first | exact ldO1 0 rfl (by assumption) rfl | exact ldO1 1 rfl (by assumption) rfl | exact ldO1 2 rfl (by assumption) rfl | exact ldO1 3 rfl (by assumption) rfl | exact ldO1 4 rfl (by assumption) rfl | exact ldO1 5 rfl (by assumption) rfl | exact ldM1 0 rfl (fun _ => rfl) (by assumption) rfl | exact ldM1 1 rfl (fun _ => rfl) (by assumption) rfl | exact ldM1 2 rfl (fun _ => rfl) (by assumption) rfl | exact ldM1 3 rfl (fun _ => rfl) (by assumption) rfl | exact ldM1 4 rfl (fun _ => rfl) (by assumption) rfl | exact ldM1 5 rfl (fun _ => rfl) (by assumption) rfl)) rfl) ?_  -- 1:0 cable.go:50 t8 load
  refine J.callV rfl rfl rfl rfl (run_static Try.call42 .f (.cons (.t 0 rfl) .nil) rfl) (fun w hA => Check_calls w c a cc (hA.ok (r := rowO _ 8 Nd.enc c.nodes) 0 rfl)) ?_  -- 1:1 cable.go:50 t9 call
  refine J.q rfl rfl rfl rfl (Q.assign (.t 0 rfl)) ?_  -- 1:2 cable.go:50 t4 assign
  refine J.end_ ?_
  refine C.keep (.cons 0 rfl (.cons 3 rfl .nil)) ?_
  refine C.seq ?_
  refine C.reg ?_
  refine J.q rfl rfl rfl rfl (Q.move (.t 0 rfl)) ?_  -- 2:0 cable.go:50 t10 move
  refine J.q rfl rfl rfl rfl (Q.neq (.t 0 rfl) .c) ?_  -- 2:1 cable.go:50 t11 binOp
  refine J.end_ ?_
  refine C.keep (.cons 0 rfl (.cons 2 rfl (.cons 3 rfl .nil))) ?_
  refine C.cond (.t 0 rfl) (fun c0 => ?_) (fun c0 => ?_)  -- cond 0
  ·
    refine C.seq ?_
    refine C.reg ?_
    refine J.q rfl rfl rfl rfl (Q.move (.t 1 rfl)) ?_  -- 3:0 cable.go:51 t12 move
    refine J.q rfl rfl rfl rfl (Q.assign .c) ?_  -- 3:1 cable.go:51 t2 assign
    refine J.q rfl rfl rfl rfl (Q.assign (.t 1 rfl)) ?_  -- 3:2 cable.go:51 t3 assign
    refine J.end_ ?_
    refine C.keep (.cons 0 rfl (.cons 1 rfl .nil)) ?_
    refine C.ret ?_
    refine X.thenRet ?_
    refine X.ret2 rfl 1 0 rfl rfl (fun w hA => ?_)
    exact PostV.eq hA rfl
  ·
    exact absurd (of_decide_eq_false c0) (by simpa using h)

theorem open_ok (w : World) (c : Cable) (a : Option Addr) (cc : Nat) (hr : (rowO a 8 Nd.enc c.nodes).ok w) (hcc : c.nodes.length ≤ cc) (h : c.check = 0) : Calls Try.prog 23 [.agg (c.cells a cc).toArray].toArray w (PostN (fun t : Tree => t.ss.map (·.xs) = kids c ∧ ∀ s ∈ t.ss, s.n = s.xs.length) (fun t => .tuple [.pointer (some ⟨t.p, 0, none⟩), .int .i64 0].toArray) (fun t => bigR (t.res c a cc)) w) := by
  obtain ⟨hn0, hn60, hsup, hgood⟩ := check_zero h
  obtain ⟨b, o, rfl⟩ := rowO.addr hr.1 (by omega)
  refine Calls.enter Try.func23 rfl rfl rfl ?_
  refine C.conseq (A' := St w no [] [rowO _ 8 Nd.enc c.nodes]) (fun _ e => by subst e; exact St.init _ _ (by simpa using hr)) ?_
  refine C.seq ?_
  refine C.reg ?_
  refine J.box rfl rfl rfl rfl (.t 0 rfl) rfl ?_; intro b1 hb1  -- 0:0 cable.go:49 t1 box
  refine J.q rfl rfl rfl rfl (Q.assign .c) ?_  -- 0:1 cable.go:49 t2 assign
  refine J.q rfl rfl rfl rfl (Q.assign .c) ?_  -- 0:2 cable.go:49 t3 assign
  refine J.end_ ?_
  refine C.keep (.cons 2 rfl .nil) ?_
  refine C.seq ?_
  refine C.seq ?_
  refine C.reg ?_
  refine J.q rfl rfl rfl rfl (Q.loadsV (.t 0 rfl) ⟨Try.isAgg26, Try.sizeOf26⟩ (by first | (first | exact ldT 3 0 rfl (by repeat constructor) | exact ldTΦ 3 0 rfl (by repeat constructor) | exact ldT 3 1 rfl (by repeat constructor) | exact ldTΦ 3 1 rfl (by repeat constructor) | exact ldT 3 2 rfl (by repeat constructor) | exact ldTΦ 3 2 rfl (by repeat constructor) | exact ldT 3 3 rfl (by repeat constructor) | exact ldTΦ 3 3 rfl (by repeat constructor) | exact ldT 3 4 rfl (by repeat constructor) | exact ldTΦ 3 4 rfl (by repeat constructor) | exact ldT 3 5 rfl (by repeat constructor) | exact ldTΦ 3 5 rfl (by repeat constructor) | exact ldT 3 6 rfl (by repeat constructor) | exact ldO 0 rfl (by assumption) | exact ldO 1 rfl (by assumption) | exact ldO 2 rfl (by assumption) | exact ldO 3 rfl (by assumption) | exact ldOT 3 0 rfl (by assumption) (by repeat constructor) | exact ldOT 3 1 rfl (by assumption) (by repeat constructor) | exact ldOT 3 2 rfl (by assumption) (by repeat constructor) | exact ldOT 3 3 rfl (by assumption) (by repeat constructor)) | (first | exact ldO1 0 rfl (by assumption) rfl | exact ldO1 1 rfl (by assumption) rfl | exact ldO1 2 rfl (by assumption) rfl | exact ldO1 3 rfl (by assumption) rfl | exact ldO1 4 rfl (by assumption) rfl | exact ldO1 5 rfl (by assumption) rfl | exact ldM1 0 rfl (fun _ => rfl) (by assumption) rfl | exact ldM1 1 rfl (fun _ => rfl) (by assumption) rfl | exact ldM1 2 rfl (fun _ => rfl) (by assumption) rfl | exact ldM1 3 rfl (fun _ => rfl) (by assumption) rfl | exact ldM1 4 rfl (fun _ => rfl) (by assumption) rfl | exact ldM1 5 rfl (fun _ => rfl) (by assumption) rfl)) rfl) ?_  -- 1:0 cable.go:50 t8 load
  refine J.callV rfl rfl rfl rfl (run_static Try.call42 .f (.cons (.t 0 rfl) .nil) rfl) (fun w hA => Check_calls w c _ cc (hA.ok (r := rowO _ 8 Nd.enc c.nodes) 0 rfl)) ?_  -- 1:1 cable.go:50 t9 call
  refine J.q rfl rfl rfl rfl (Q.assign (.t 0 rfl)) ?_  -- 1:2 cable.go:50 t4 assign
  refine J.end_ ?_
  refine C.keep (.cons 0 rfl (.cons 3 rfl .nil)) ?_
  refine C.seq ?_
  refine C.reg ?_
  refine J.q rfl rfl rfl rfl (Q.move (.t 0 rfl)) ?_  -- 2:0 cable.go:50 t10 move
  refine J.q rfl rfl rfl rfl (Q.neq (.t 0 rfl) .c) ?_  -- 2:1 cable.go:50 t11 binOp
  refine J.end_ ?_
  refine C.keep (.cons 0 rfl (.cons 2 rfl (.cons 3 rfl .nil))) ?_
  refine C.cond (.t 0 rfl) (fun c0 => ?_) (fun c0 => ?_)  -- cond 0
  ·
    exact absurd h (by simpa using c0)
  ·
    refine C.skip ?_
    refine X.go ?_
    refine C.keep (.cons 2 rfl .nil) ?_
    refine C.seq ?_
    refine C.drawS ?_
    refine JC.q 0 rfl rfl rfl rfl (Q.loadsV (.t 0 rfl) ⟨Try.isAgg26, Try.sizeOf26⟩ (by first | (first | exact ldT 3 0 rfl (by repeat constructor) | exact ldTΦ 3 0 rfl (by repeat constructor) | exact ldT 3 1 rfl (by repeat constructor) | exact ldTΦ 3 1 rfl (by repeat constructor) | exact ldT 3 2 rfl (by repeat constructor) | exact ldTΦ 3 2 rfl (by repeat constructor) | exact ldT 3 3 rfl (by repeat constructor) | exact ldTΦ 3 3 rfl (by repeat constructor) | exact ldT 3 4 rfl (by repeat constructor) | exact ldTΦ 3 4 rfl (by repeat constructor) | exact ldT 3 5 rfl (by repeat constructor) | exact ldTΦ 3 5 rfl (by repeat constructor) | exact ldT 3 6 rfl (by repeat constructor) | exact ldO 0 rfl (by assumption) | exact ldO 1 rfl (by assumption) | exact ldO 2 rfl (by assumption) | exact ldO 3 rfl (by assumption) | exact ldOT 3 0 rfl (by assumption) (by repeat constructor) | exact ldOT 3 1 rfl (by assumption) (by repeat constructor) | exact ldOT 3 2 rfl (by assumption) (by repeat constructor) | exact ldOT 3 3 rfl (by assumption) (by repeat constructor)) | (first | exact ldO1 0 rfl (by assumption) rfl | exact ldO1 1 rfl (by assumption) rfl | exact ldO1 2 rfl (by assumption) rfl | exact ldO1 3 rfl (by assumption) rfl | exact ldO1 4 rfl (by assumption) rfl | exact ldO1 5 rfl (by assumption) rfl | exact ldM1 0 rfl (fun _ => rfl) (by assumption) rfl | exact ldM1 1 rfl (fun _ => rfl) (by assumption) rfl | exact ldM1 2 rfl (fun _ => rfl) (by assumption) rfl | exact ldM1 3 rfl (fun _ => rfl) (by assumption) rfl | exact ldM1 4 rfl (fun _ => rfl) (by assumption) rfl | exact ldM1 5 rfl (fun _ => rfl) (by assumption) rfl)) rfl) ?_  -- 4:0 cable.go:53 t13 load
    refine JC.q 1 rfl rfl rfl rfl (Q.fa0 2 Try.underlying26 rfl Try.sizeOf24 rfl rfl (.t 1 rfl)) ?_  -- 4:1 cable.go:53 t14 fieldAddr
    refine JC.q 2 rfl rfl rfl rfl (Q.load (.t 0 rfl) Try.isAgg24 (by first | (first | exact ldT 1 0 rfl (by repeat constructor) | exact ldTΦ 1 0 rfl (by repeat constructor) | exact ldT 1 1 rfl (by repeat constructor) | exact ldTΦ 1 1 rfl (by repeat constructor) | exact ldT 1 2 rfl (by repeat constructor) | exact ldTΦ 1 2 rfl (by repeat constructor) | exact ldT 1 3 rfl (by repeat constructor) | exact ldTΦ 1 3 rfl (by repeat constructor) | exact ldT 1 4 rfl (by repeat constructor) | exact ldTΦ 1 4 rfl (by repeat constructor) | exact ldT 1 5 rfl (by repeat constructor) | exact ldTΦ 1 5 rfl (by repeat constructor) | exact ldT 1 6 rfl (by repeat constructor) | exact ldO 0 rfl (by assumption) | exact ldO 1 rfl (by assumption) | exact ldO 2 rfl (by assumption) | exact ldO 3 rfl (by assumption) | exact ldOT 1 0 rfl (by assumption) (by repeat constructor) | exact ldOT 1 1 rfl (by assumption) (by repeat constructor) | exact ldOT 1 2 rfl (by assumption) (by repeat constructor) | exact ldOT 1 3 rfl (by assumption) (by repeat constructor)) | (first | exact ldO1 0 rfl (by assumption) rfl | exact ldO1 1 rfl (by assumption) rfl | exact ldO1 2 rfl (by assumption) rfl | exact ldO1 3 rfl (by assumption) rfl | exact ldO1 4 rfl (by assumption) rfl | exact ldO1 5 rfl (by assumption) rfl | exact ldM1 0 rfl (fun _ => rfl) (by assumption) rfl | exact ldM1 1 rfl (fun _ => rfl) (by assumption) rfl | exact ldM1 2 rfl (fun _ => rfl) (by assumption) rfl | exact ldM1 3 rfl (fun _ => rfl) (by assumption) rfl | exact ldM1 4 rfl (fun _ => rfl) (by assumption) rfl | exact ldM1 5 rfl (fun _ => rfl) (by assumption) rfl))) ?_  -- 4:2 cable.go:53 t15 load
    refine JC.q 3 rfl rfl rfl rfl (Q.len Try.underlying24 (.t 0 rfl)) ?_  -- 4:3 cable.go:53 t16 call
    refine JC.tail [0, 0, 2, 6, 14, 31, 63, 127] 4 mixed (by kernel_rfl) (by kernel_rfl) (by (first | (exact fun _ h => h) | (exact fun _ h => h.dropM) | (exact fun _ h => h.dropM.dropM) | (exact fun _ h => h.sub (by (repeat (first | exact List.Sublist.refl _ | exact List.nil_sublist _ | apply List.Sublist.cons_cons | apply List.Sublist.cons)); done)) | (exact fun _ h => h.subΦ (fun i hi => List.mem_cons_of_mem _ hi)))) ?_
    refine JT.pick [4] (by kernel_rfl) (.cons (DStep.of rfl ?_) .nil)
    refine J.mkS rfl rfl rfl rfl Try.underlying80 inf33 (by simp) (.t 0 rfl) (.t 0 rfl) (by omega) (by omega) ?_; intro b17 hb17  -- 4:4 cable.go:53 t17 makeSlice
    refine J.finD rfl rfl (by (first | (exact fun _ h => h) | (exact fun _ h => h.dropM) | (exact fun _ h => h.dropM.dropM) | (exact fun _ h => h.sub (by (repeat (first | exact List.Sublist.refl _ | exact List.nil_sublist _ | apply List.Sublist.cons_cons | apply List.Sublist.cons)); done)) | (exact fun _ h => h.subΦ (fun i hi => List.mem_cons_of_mem _ hi)))) ?_
    refine JT.pick [5] (by kernel_rfl) (.cons (DStep.of rfl ?_) .nil)
    refine J.q rfl rfl rfl rfl (Q.buildB stb82 (ps := [(0, _), (1, _)]) (.cons (.t 4 rfl) (.cons (.t 0 rfl) .nil)) rfl (by (repeat (first | exact Bd.nil | (apply Bd.cons rfl rfl rfl (by (repeat constructor); done)))); done)) ?_  -- 4:5 cable.go:53 t18 build
    refine J.finF rfl rfl ?_
    refine JT.pick [6] (by kernel_rfl) (.cons (DStep.of rfl ?_) .nil)
    refine J.box rfl rfl rfl rfl (.t 0 rfl) rfl ?_; intro b19 hb19  -- 4:6 cable.go:53 t19 box
    refine J.finF rfl rfl ?_
    refine JT.pick [7] (by kernel_rfl) (.cons (DStep.of rfl ?_) .nil)
    refine J.q rfl rfl rfl rfl (Q.assign (.t 0 rfl)) ?_  -- 4:7 cable.go:53 t5 assign
    refine J.finF rfl rfl ?_
    refine JT.end_ ?_
    refine X.go ?_
    refine C.keep (.cons 0 rfl (.cons 8 rfl .nil)) ?_
    refine C.seq ?_
    refine C.seq ?_
    refine C.reg ?_
    refine J.q rfl rfl rfl rfl (Q.fa0 2 Try.underlying26 rfl Try.sizeOf24 rfl rfl (.t 1 rfl)) ?_  -- 5:0 cable.go:54 t20 fieldAddr
    refine J.q rfl rfl rfl rfl (Q.load (.t 0 rfl) Try.isAgg24 (by first | (first | exact ldT 1 0 rfl (by repeat constructor) | exact ldTΦ 1 0 rfl (by repeat constructor) | exact ldT 1 1 rfl (by repeat constructor) | exact ldTΦ 1 1 rfl (by repeat constructor) | exact ldT 1 2 rfl (by repeat constructor) | exact ldTΦ 1 2 rfl (by repeat constructor) | exact ldT 1 3 rfl (by repeat constructor) | exact ldTΦ 1 3 rfl (by repeat constructor) | exact ldT 1 4 rfl (by repeat constructor) | exact ldTΦ 1 4 rfl (by repeat constructor) | exact ldT 1 5 rfl (by repeat constructor) | exact ldTΦ 1 5 rfl (by repeat constructor) | exact ldT 1 6 rfl (by repeat constructor) | exact ldO 0 rfl (by assumption) | exact ldO 1 rfl (by assumption) | exact ldO 2 rfl (by assumption) | exact ldO 3 rfl (by assumption) | exact ldOT 1 0 rfl (by assumption) (by repeat constructor) | exact ldOT 1 1 rfl (by assumption) (by repeat constructor) | exact ldOT 1 2 rfl (by assumption) (by repeat constructor) | exact ldOT 1 3 rfl (by assumption) (by repeat constructor)) | (first | exact ldO1 0 rfl (by assumption) rfl | exact ldO1 1 rfl (by assumption) rfl | exact ldO1 2 rfl (by assumption) rfl | exact ldO1 3 rfl (by assumption) rfl | exact ldO1 4 rfl (by assumption) rfl | exact ldO1 5 rfl (by assumption) rfl | exact ldM1 0 rfl (fun _ => rfl) (by assumption) rfl | exact ldM1 1 rfl (fun _ => rfl) (by assumption) rfl | exact ldM1 2 rfl (fun _ => rfl) (by assumption) rfl | exact ldM1 3 rfl (fun _ => rfl) (by assumption) rfl | exact ldM1 4 rfl (fun _ => rfl) (by assumption) rfl | exact ldM1 5 rfl (fun _ => rfl) (by assumption) rfl))) ?_  -- 5:1 cable.go:54 t21 load
    refine J.q rfl rfl rfl rfl (Q.slice Try.underlying24 Try.sizeOf40 (.t 0 rfl) ⟨_, .c⟩ rfl (by omega) (by omega) (by omega) (l := 1) (h := c.nodes.length)) ?_  -- 5:2 cable.go:54 t22 slice
    refine J.q rfl rfl rfl rfl (Q.len Try.underlying24 (.t 0 rfl)) ?_  -- 5:3 cable.go:54 t23 call
    refine J.q rfl rfl rfl rfl (Q.move .c) ?_  -- 5:4 cable.go:54 t24 move
    refine J.end_ ?_
    refine C.keep (.cons 0 rfl (.cons 1 rfl (.cons 2 rfl (.cons 5 rfl .nil)))) ?_
    refine C.block ?_
    refine C.loop_1 (fun g => .int .i64 (g.1.1 : Int)) (G := { g : Nat × List Sl // g.1 ≤ c.nodes.length - 1 ∧ g.2.map (·.xs) = kidsUpto c g.1 ∧ g.2.length = c.nodes.length ∧ ∀ s ∈ g.2, s.n = s.xs.length ∧ s.n ≤ g.1 }) (fun g => St w no ([bx b19 82 (c.tcells (some ⟨b, o, none⟩) cc b17), bx b17 33 (g.1.2.flatMap Sl.enc)] ++ g.1.2.map Sl.grow) [rowO (some ⟨b, o, none⟩) 8 Nd.enc c.nodes]) (fun g => c.nodes.length - g.1.1) (⟨(0, List.replicate c.nodes.length ⟨none, 0, 0, []⟩), by simp, by simp [kidsUpto], by simp, by simp⟩) (by (first | rfl | (simp; done))) ?_ ?_
    ·
      exact fun _ h => by rw [← flat_rep]; exact tree_start h
    ·
      rintro ⟨⟨i, ss⟩, hi, hk, hl, hsn⟩
      dsimp only
      dsimp only at hi hk hl hsn
      refine C.seq ?_
      refine C.reg ?_
      refine J.q rfl rfl rfl rfl (Q.lss (.t 0 rfl) (.t 1 rfl)) ?_  -- 6:0 cable.go:54 t25 binOp
      refine J.end_ ?_
      refine C.seq ?_
      refine C.cond (.t 0 rfl) (fun c1 => ?_) (fun c1 => ?_)  -- cond 1
      ·
        simp only [decide_eq_true_eq, decide_eq_false_iff_not, Bool.and_eq_true, Bool.or_eq_true, Bool.and_eq_false_iff, Bool.or_eq_false_iff, Bool.not_eq_true', Bool.not_eq_false', beq_iff_eq, bne_iff_ne, Int.not_lt, Int.not_le, Decidable.not_not, ne_eq] at c1
        have hlt : i + 1 < c.nodes.length := by omega
        obtain ⟨nd, hx⟩ := get_lt hlt
        have hg := (hgood (i + 1) nd hx)
        have hp := (Nd.good_props hg).2.1 (by omega)
        have hp1 : nd.parent.toNat < ss.length := by omega
        obtain ⟨s, hs⟩ := get_lt hp1
        have hsn1 := hsn s (List.mem_of_getElem? hs)
        refine C.skip ?_
        refine X.go ?_
        refine C.keep (.cons 1 rfl (.cons 2 rfl (.cons 3 rfl (.cons 4 rfl .nil)))) ?_
        refine C.seq ?_
        refine C.block ?_
        refine C.seq ?_
        refine C.reg ?_
        refine J.q rfl rfl rfl rfl (Q.move (.t 0 rfl)) ?_  -- 7:0 cable.go:54 t26 move
        refine J.q rfl rfl rfl rfl (Q.indexAddr Try.underlying24 Try.sizeOf40 (.t 3 rfl) (.t 1 rfl) (by omega)) ?_  -- 7:1 cable.go:54 t27 indexAddr
        refine J.q rfl rfl rfl rfl (Q.loadsV (.t 0 rfl) ⟨Try.isAgg40, Try.sizeOf40⟩ (by rw [show (if cc = 1 then o else o + 1 * 8) + (i : Int).toNat * 8 = o + (i + 1) * 8 by rw [if_neg (by omega)]; omega]; exact ldO 0 rfl hx) rfl) ?_  -- 7:2 cable.go:54 t28 load
        refine J.alloc rfl rfl rfl rfl Try.zeroValue40 rfl ?_; intro b7 hb7  -- 7:3 cable.go:54 t7 alloc
        refine J.q rfl rfl rfl rfl (Q.assign (.t 3 rfl)) ?_  -- 7:4 cable.go:54 t6 assign
        refine J.s rfl rfl rfl (S.storeP (.t 1 rfl) (.t 2 rfl) Try.sizeOf40 rfl rfl (by (first | exact Nd.enc_one _ | (first | exact Span.enc_one _ | ((intro u hu; simp at hu; first | done | ((repeat' (rcases hu with rfl | hu)) <;> (try subst hu) <;> rfl)))))) (by (repeat (first | exact Upd.here | apply Upd.there))) (by (repeat constructor); done)) ?_  -- 7:5 cable.go:54 tNone store
        refine J.end_ ?_
        refine C.keep (.cons 0 rfl (.cons 1 rfl (.cons 5 rfl (.cons 6 rfl (.cons 7 rfl (.cons 8 rfl .nil)))))) ?_
        refine C.drawC (St w no [bx b7 40 nd.enc, bx b19 82 (c.tcells (some ⟨b, o, none⟩) cc b17), bx b17 33 (ss.flatMap Sl.enc)] [rowO (some ⟨b, o, none⟩) 8 Nd.enc c.nodes]) ?_
        refine JC.q 0 rfl rfl rfl rfl (Q.move (.t 5 rfl)) ?_  -- 8:0 cable.go:55 t29 move
        refine JC.q 1 rfl rfl rfl rfl (Q.nilCheck (.t 0 rfl)) ?_  -- 8:1 cable.go:55 t30 nilCheck
        refine JC.q 2 rfl rfl rfl rfl (Q.fa0 3 Try.underlying82 rfl Try.sizeOf80 rfl rfl (.t 0 rfl)) ?_  -- 8:2 cable.go:55 t31 fieldAddr
        refine JC.q 3 rfl rfl rfl rfl (Q.load (.t 0 rfl) Try.isAgg80 (by first | (first | exact ldT 1 0 rfl (by repeat constructor) | exact ldTΦ 1 0 rfl (by repeat constructor) | exact ldT 1 1 rfl (by repeat constructor) | exact ldTΦ 1 1 rfl (by repeat constructor) | exact ldT 1 2 rfl (by repeat constructor) | exact ldTΦ 1 2 rfl (by repeat constructor) | exact ldT 1 3 rfl (by repeat constructor) | exact ldTΦ 1 3 rfl (by repeat constructor) | exact ldT 1 4 rfl (by repeat constructor) | exact ldTΦ 1 4 rfl (by repeat constructor) | exact ldT 1 5 rfl (by repeat constructor) | exact ldTΦ 1 5 rfl (by repeat constructor) | exact ldT 1 6 rfl (by repeat constructor) | exact ldO 0 rfl (by assumption) | exact ldO 1 rfl (by assumption) | exact ldO 2 rfl (by assumption) | exact ldO 3 rfl (by assumption) | exact ldOT 1 0 rfl (by assumption) (by repeat constructor) | exact ldOT 1 1 rfl (by assumption) (by repeat constructor) | exact ldOT 1 2 rfl (by assumption) (by repeat constructor) | exact ldOT 1 3 rfl (by assumption) (by repeat constructor)) | (first | exact ldO1 0 rfl (by assumption) rfl | exact ldO1 1 rfl (by assumption) rfl | exact ldO1 2 rfl (by assumption) rfl | exact ldO1 3 rfl (by assumption) rfl | exact ldO1 4 rfl (by assumption) rfl | exact ldO1 5 rfl (by assumption) rfl | exact ldM1 0 rfl (fun _ => rfl) (by assumption) rfl | exact ldM1 1 rfl (fun _ => rfl) (by assumption) rfl | exact ldM1 2 rfl (fun _ => rfl) (by assumption) rfl | exact ldM1 3 rfl (fun _ => rfl) (by assumption) rfl | exact ldM1 4 rfl (fun _ => rfl) (by assumption) rfl | exact ldM1 5 rfl (fun _ => rfl) (by assumption) rfl))) ?_  -- 8:3 cable.go:55 t32 load
        refine JC.q 4 rfl rfl rfl rfl (Q.fa0 0 Try.underlying40 rfl Try.sizeOf3 rfl rfl (.t 5 rfl)) ?_  -- 8:4 cable.go:55 t33 fieldAddr
        refine JC.q 5 rfl rfl rfl rfl (Q.load (.t 0 rfl) Try.isAgg3 (by first | (first | exact ldT 1 0 rfl (by repeat constructor) | exact ldTΦ 1 0 rfl (by repeat constructor) | exact ldT 1 1 rfl (by repeat constructor) | exact ldTΦ 1 1 rfl (by repeat constructor) | exact ldT 1 2 rfl (by repeat constructor) | exact ldTΦ 1 2 rfl (by repeat constructor) | exact ldT 1 3 rfl (by repeat constructor) | exact ldTΦ 1 3 rfl (by repeat constructor) | exact ldT 1 4 rfl (by repeat constructor) | exact ldTΦ 1 4 rfl (by repeat constructor) | exact ldT 1 5 rfl (by repeat constructor) | exact ldTΦ 1 5 rfl (by repeat constructor) | exact ldT 1 6 rfl (by repeat constructor) | exact ldO 0 rfl (by assumption) | exact ldO 1 rfl (by assumption) | exact ldO 2 rfl (by assumption) | exact ldO 3 rfl (by assumption) | exact ldOT 1 0 rfl (by assumption) (by repeat constructor) | exact ldOT 1 1 rfl (by assumption) (by repeat constructor) | exact ldOT 1 2 rfl (by assumption) (by repeat constructor) | exact ldOT 1 3 rfl (by assumption) (by repeat constructor)) | (first | exact ldO1 0 rfl (by assumption) rfl | exact ldO1 1 rfl (by assumption) rfl | exact ldO1 2 rfl (by assumption) rfl | exact ldO1 3 rfl (by assumption) rfl | exact ldO1 4 rfl (by assumption) rfl | exact ldO1 5 rfl (by assumption) rfl | exact ldM1 0 rfl (fun _ => rfl) (by assumption) rfl | exact ldM1 1 rfl (fun _ => rfl) (by assumption) rfl | exact ldM1 2 rfl (fun _ => rfl) (by assumption) rfl | exact ldM1 3 rfl (fun _ => rfl) (by assumption) rfl | exact ldM1 4 rfl (fun _ => rfl) (by assumption) rfl | exact ldM1 5 rfl (fun _ => rfl) (by assumption) rfl))) ?_  -- 8:5 cable.go:55 t34 load
        refine JC.q 6 rfl rfl rfl rfl (Q.move (.t 11 rfl)) ?_  -- 8:6 cable.go:55 t35 move
        refine JC.q 7 rfl rfl rfl rfl (Q.nilCheck (.t 0 rfl)) ?_  -- 8:7 cable.go:55 t36 nilCheck
        refine JC.q 8 rfl rfl rfl rfl (Q.fa0 3 Try.underlying82 rfl Try.sizeOf80 rfl rfl (.t 0 rfl)) ?_  -- 8:8 cable.go:55 t37 fieldAddr
        refine JC.q 9 rfl rfl rfl rfl (Q.load (.t 0 rfl) Try.isAgg80 (by first | (first | exact ldT 1 0 rfl (by repeat constructor) | exact ldTΦ 1 0 rfl (by repeat constructor) | exact ldT 1 1 rfl (by repeat constructor) | exact ldTΦ 1 1 rfl (by repeat constructor) | exact ldT 1 2 rfl (by repeat constructor) | exact ldTΦ 1 2 rfl (by repeat constructor) | exact ldT 1 3 rfl (by repeat constructor) | exact ldTΦ 1 3 rfl (by repeat constructor) | exact ldT 1 4 rfl (by repeat constructor) | exact ldTΦ 1 4 rfl (by repeat constructor) | exact ldT 1 5 rfl (by repeat constructor) | exact ldTΦ 1 5 rfl (by repeat constructor) | exact ldT 1 6 rfl (by repeat constructor) | exact ldO 0 rfl (by assumption) | exact ldO 1 rfl (by assumption) | exact ldO 2 rfl (by assumption) | exact ldO 3 rfl (by assumption) | exact ldOT 1 0 rfl (by assumption) (by repeat constructor) | exact ldOT 1 1 rfl (by assumption) (by repeat constructor) | exact ldOT 1 2 rfl (by assumption) (by repeat constructor) | exact ldOT 1 3 rfl (by assumption) (by repeat constructor)) | (first | exact ldO1 0 rfl (by assumption) rfl | exact ldO1 1 rfl (by assumption) rfl | exact ldO1 2 rfl (by assumption) rfl | exact ldO1 3 rfl (by assumption) rfl | exact ldO1 4 rfl (by assumption) rfl | exact ldO1 5 rfl (by assumption) rfl | exact ldM1 0 rfl (fun _ => rfl) (by assumption) rfl | exact ldM1 1 rfl (fun _ => rfl) (by assumption) rfl | exact ldM1 2 rfl (fun _ => rfl) (by assumption) rfl | exact ldM1 3 rfl (fun _ => rfl) (by assumption) rfl | exact ldM1 4 rfl (fun _ => rfl) (by assumption) rfl | exact ldM1 5 rfl (fun _ => rfl) (by assumption) rfl))) ?_  -- 8:9 cable.go:55 t38 load
        refine JC.q 10 rfl rfl rfl rfl (Q.fa0 0 Try.underlying40 rfl Try.sizeOf3 rfl rfl (.t 11 rfl)) ?_  -- 8:10 cable.go:55 t39 fieldAddr
        refine JC.q 11 rfl rfl rfl rfl (Q.load (.t 0 rfl) Try.isAgg3 (by first | (first | exact ldT 1 0 rfl (by repeat constructor) | exact ldTΦ 1 0 rfl (by repeat constructor) | exact ldT 1 1 rfl (by repeat constructor) | exact ldTΦ 1 1 rfl (by repeat constructor) | exact ldT 1 2 rfl (by repeat constructor) | exact ldTΦ 1 2 rfl (by repeat constructor) | exact ldT 1 3 rfl (by repeat constructor) | exact ldTΦ 1 3 rfl (by repeat constructor) | exact ldT 1 4 rfl (by repeat constructor) | exact ldTΦ 1 4 rfl (by repeat constructor) | exact ldT 1 5 rfl (by repeat constructor) | exact ldTΦ 1 5 rfl (by repeat constructor) | exact ldT 1 6 rfl (by repeat constructor) | exact ldO 0 rfl (by assumption) | exact ldO 1 rfl (by assumption) | exact ldO 2 rfl (by assumption) | exact ldO 3 rfl (by assumption) | exact ldOT 1 0 rfl (by assumption) (by repeat constructor) | exact ldOT 1 1 rfl (by assumption) (by repeat constructor) | exact ldOT 1 2 rfl (by assumption) (by repeat constructor) | exact ldOT 1 3 rfl (by assumption) (by repeat constructor)) | (first | exact ldO1 0 rfl (by assumption) rfl | exact ldO1 1 rfl (by assumption) rfl | exact ldO1 2 rfl (by assumption) rfl | exact ldO1 3 rfl (by assumption) rfl | exact ldO1 4 rfl (by assumption) rfl | exact ldO1 5 rfl (by assumption) rfl | exact ldM1 0 rfl (fun _ => rfl) (by assumption) rfl | exact ldM1 1 rfl (fun _ => rfl) (by assumption) rfl | exact ldM1 2 rfl (fun _ => rfl) (by assumption) rfl | exact ldM1 3 rfl (fun _ => rfl) (by assumption) rfl | exact ldM1 4 rfl (fun _ => rfl) (by assumption) rfl | exact ldM1 5 rfl (fun _ => rfl) (by assumption) rfl))) ?_  -- 8:11 cable.go:55 t40 load
        refine JC.q 12 rfl rfl rfl rfl (Q.indexAddr Try.underlying80 Try.sizeOf33 (.t 2 rfl) (.t 0 rfl) (by omega)) ?_  -- 8:12 cable.go:55 t41 indexAddr
        refine JC.q 13 rfl rfl rfl rfl (Q.load (.t 0 rfl) Try.isAgg33 (by exact ldMO (enc := Sl.enc) (x := s) 2 rfl (fun _ => rfl) hs)) ?_  -- 8:13 cable.go:55 t42 load
        refine JC.q 14 rfl rfl rfl rfl (Q.move (.t 14 rfl)) ?_  -- 8:14 cable.go:55 t43 move
        refine JC.q 15 rfl rfl rfl rfl (Q.add (.t 0 rfl) .c (by omega)) ?_  -- 8:15 cable.go:55 t44 binOp
        refine JC.tail [0, 1, 3, 7, 0, 16, 0, 64, 192, 448, 0, 1024, 4032, 8128, 0, 16384, 49152, 131008, 262143, 524287] 4 mixed (by kernel_rfl) (by kernel_rfl) (by (first | (exact fun _ h => h) | (exact fun _ h => h.dropM) | (exact fun _ h => h.dropM.dropM) | (exact fun _ h => h.sub (by (repeat (first | exact List.Sublist.refl _ | exact List.nil_sublist _ | apply List.Sublist.cons_cons | apply List.Sublist.cons)); done)) | (exact fun _ h => h.subΦ (fun i hi => List.mem_cons_of_mem _ hi)))) ?_
        refine JT.pick [16] (by kernel_rfl) (.cons (DStep.of rfl ?_) .nil)
        refine J.lit rfl rfl rfl rfl rfl rfl Try.underlying33 inf3 (.cons (.t 0 rfl) .nil) (Cs.eq (.cons rfl .nil)) (by simp) (by simp) (by simp) (by simp) ?_; intro b45 hb45  -- 8:16 cable.go:55 t45 buildSlice
        refine J.finD rfl rfl (by (first | (exact fun _ h => h) | (exact fun _ h => h.dropM) | (exact fun _ h => h.dropM.dropM) | (exact fun _ h => h.sub (by (repeat (first | exact List.Sublist.refl _ | exact List.nil_sublist _ | apply List.Sublist.cons_cons | apply List.Sublist.cons)); done)) | (exact fun _ h => h.subΦ (fun i hi => List.mem_cons_of_mem _ hi)))) ?_
        refine JT.pick [17] (by kernel_rfl) (.cons (DStep.of rfl ?_) .nil)
        refine J.append (news := [I64 ((i : Int) + 1)]) (Mn := fun a' c' => [bx b45 3 [I64 ((i : Int) + 1)], bx b7 40 nd.enc, bx b19 82 (c.tcells (some ⟨b, o, none⟩) cc b17), bx b17 33 (ss.flatMap Sl.enc)] ++ (ss.set nd.parent.toNat ⟨a', s.n + 1, c', s.xs ++ [(i : Int) + 1]⟩).map Sl.grow) rfl rfl rfl rfl Try.underlying33 inf3 (by simp) (.t 3 rfl) (.t 0 rfl) (fun w hA => ⟨_, _, rfl, ldT 1 0 rfl (by (repeat constructor); done) w hA⟩) rfl (by simp [Value.oneCell']) (by omega) (by omega) (fun a' c' => Upd.append (l := [_, _, _, _]) (by have := Upd.map (f := Sl.grow) (y := ⟨a', s.n + 1, c', s.xs ++ [(i : Int) + 1]⟩) hs; simp only [Sl.grow, List.map_append, List.map_cons, List.map_nil] at this; exact this)) ?_; intro a' c'
        refine J.finD rfl rfl (by (first | (exact fun _ h => h) | (exact fun _ h => h.dropM) | (exact fun _ h => h.dropM.dropM) | (exact fun _ h => h.sub (by (repeat (first | exact List.Sublist.refl _ | exact List.nil_sublist _ | apply List.Sublist.cons_cons | apply List.Sublist.cons)); done)) | (exact fun _ h => h.subΦ (fun i hi => List.mem_cons_of_mem _ hi)))) ?_
        refine JT.pick [18] (by kernel_rfl) (.cons (DStep.of rfl ?_) .nil)
        refine J.q rfl rfl rfl rfl (Q.indexAddr Try.underlying80 Try.sizeOf33 (.t 14 rfl) (.t 12 rfl) (by omega)) ?_  -- 8:18 cable.go:55 t47 indexAddr
        refine J.finF rfl rfl ?_
        refine JT.pick [19] (by kernel_rfl) (.cons (DStep.of rfl ?_) .nil)
        refine J.s rfl rfl rfl (S.storeR (enc := Sl.enc) (e := ⟨a', s.n + 1, c', s.xs ++ [(i : Int) + 1]⟩) (.t 0 rfl) (.t 1 rfl) Try.sizeOf33 (fun _ => rfl) rfl rfl (by (first | exact Nd.enc_one _ | (first | exact Span.enc_one _ | ((intro u hu; simp at hu; first | done | ((repeat' (rcases hu with rfl | hu)) <;> (try subst hu) <;> rfl)))))) (by (repeat (first | exact Upd.here | apply Upd.there))) (by omega)) ?_
        refine J.finF rfl rfl ?_
        refine JT.end_ ?_
        refine X.inNormal ?_
        refine X.go ?_
        refine C.keep (.cons 21 rfl (.cons 22 rfl (.cons 23 rfl (.cons 24 rfl .nil)))) ?_
        refine C.reg ?_
        refine J.q rfl rfl rfl rfl (Q.add (.t 0 rfl) .c (by omega)) ?_  -- 9:0 cable.go:54 t48 binOp
        refine J.keep (.cons 0 rfl (.cons 2 rfl (.cons 3 rfl (.cons 4 rfl .nil)))) ?_
        refine J.q rfl rfl rfl rfl (Q.move (.t 0 rfl)) ?_  -- 9:1 cable.go:54 t24 move
        refine J.done ?_
        refine X.nx (⟨(i + 1, ss.set nd.parent.toNat ⟨a', s.n + 1, c', s.xs ++ [(i : Int) + 1]⟩), by simp only; omega, kids_next hk hx hs rfl, by simpa using hl, by intro s' h'; rcases List.mem_or_eq_of_mem_set h' with h' | h'; (have := hsn s' h'; simp only; omega); (subst h'; simp only [List.length_append, List.length_cons, List.length_nil]; omega)⟩) (.cons 0 (by (first | rfl | (simp; done))) (.cons 2 (by (first | rfl | (simp; done))) (.cons 3 (by (first | rfl | (simp; done))) (.cons 4 (by (first | rfl | (simp; done))) .nil)))) ?_ ?_
        ·
          exact fun _ h => h.dropM.dropM
        ·
          simp; omega
      ·
        simp only [decide_eq_true_eq, decide_eq_false_iff_not, Bool.and_eq_true, Bool.or_eq_true, Bool.and_eq_false_iff, Bool.or_eq_false_iff, Bool.not_eq_true', Bool.not_eq_false', beq_iff_eq, bne_iff_ne, Int.not_lt, Int.not_le, Decidable.not_not, ne_eq] at c1
        refine C.exit ?_
        refine X.thenExit ?_
        refine X.thenExit ?_
        refine X.inHit ?_
        refine X.go ?_
        refine C.keep (.cons 4 rfl .nil) ?_
        refine C.seq ?_
        refine C.reg ?_
        refine J.q rfl rfl rfl rfl (Q.move (.t 0 rfl)) ?_  -- 10:0 cable.go:57 t49 move
        refine J.q rfl rfl rfl rfl (Q.assign (.t 0 rfl)) ?_  -- 10:1 cable.go:57 t2 assign
        refine J.q rfl rfl rfl rfl (Q.assign .c) ?_  -- 10:2 cable.go:57 t3 assign
        refine J.end_ ?_
        refine C.keep (.cons 0 rfl (.cons 1 rfl .nil)) ?_
        refine C.ret ?_
        refine X.ret2 rfl 1 0 rfl rfl (fun w hA => ?_)
        exact PostN.big (rs := fun t : Tree => t.res c (some ⟨b, o, none⟩) cc) (⟨b19, b17, ss⟩ : Tree) ⟨by rw [show kids c = kidsUpto c i by rw [kids, show c.nodes.length - 1 = i by omega]]; exact hk, fun s hs => (hsn s hs).1⟩ hA (tree_comes _ _ _ _ _ _)

end Go.Proofs
namespace Go.Proofs
open Go Go.J Go.RowKit Go.Cab
set_option maxRecDepth 4096
set_option linter.unusedSimpArgs false
set_option linter.unusedVariables false
theorem has_calls (w : World) (c : Cable) (a : Option Addr) (cc p q : Nat) (k : Int) (ht : (bx p 82 (c.tcells a cc q)).ok w) : Calls Try.prog 30 [.pointer (some ⟨p, 0, none⟩), .int .i64 k].toArray w (PostV (.bool (decide (0 ≤ k) && decide (k < c.nodes.length))) w) := by
  refine Calls.enter Try.func30 rfl rfl rfl ?_
  refine C.conseq (A' := St w no [] [bx p 82 (c.tcells a cc q)]) (fun _ e => by subst e; exact St.init _ _ (by simpa using ht)) ?_
  refine C.seq ?_
  refine C.reg ?_
  refine J.q rfl rfl rfl rfl (Q.assign .c) ?_  -- 0:0 cable.go:70 t4 assign
  refine J.end_ ?_
  refine C.keep (.cons 1 rfl (.cons 2 rfl .nil)) ?_
  refine C.seq ?_
  refine C.reg ?_
  refine J.q rfl rfl rfl rfl (Q.move (.t 1 rfl)) ?_  -- 1:0 cable.go:70 t5 move
  refine J.q rfl rfl rfl rfl (Q.geq (.t 0 rfl) .c) ?_  -- 1:1 cable.go:70 t6 binOp
  refine J.q rfl rfl rfl rfl (Q.move (.t 0 rfl)) ?_  -- 1:2 cable.go:70 t7 move
  refine J.gQ (Gd.one rfl rfl rfl (.t 0 rfl)) rfl rfl rfl (.p 4 rfl .nil) (fun hg => (Q.move (.t 0 rfl))) ?_  -- 1:3 cable.go:70 t8 move
  refine J.gQ (Gd.one rfl rfl rfl (.t 1 rfl)) rfl rfl rfl (.p 4 rfl .nil) (fun hg => (Q.move (.t 0 rfl))) ?_  -- 1:4 cable.go:70 t9 move
  refine J.gQ (Gd.one rfl rfl rfl (.t 2 rfl)) rfl rfl rfl (.g 0 rfl .nil) (fun hg => (Q.nilCheck (.t 0 rfl))) ?_  -- 1:5 cable.go:70 t10 nilCheck
  refine J.gQ (Gd.one rfl rfl rfl (.t 3 rfl)) rfl rfl rfl (.g 0 rfl .nil) (fun hg => (Q.fa 0 Try.underlying82 rfl Try.sizeOf26 rfl rfl (.t 0 rfl))) ?_  -- 1:6 cable.go:70 t11 fieldAddr
  refine J.gQ (Gd.one rfl rfl rfl (.t 4 rfl)) rfl rfl rfl (.g 0 rfl .nil) (fun hg => (Q.fa 2 Try.underlying26 rfl Try.sizeOf24 rfl rfl (.t 0 rfl))) ?_  -- 1:7 cable.go:70 t12 fieldAddr
  refine J.gQ (Gd.one rfl rfl rfl (.t 5 rfl)) rfl rfl rfl (.g 0 rfl .nil) (fun hg => (Q.load (.t 0 rfl) Try.isAgg24 (by first | (first | exact ldT 1 0 rfl (by repeat constructor) | exact ldTΦ 1 0 rfl (by repeat constructor) | exact ldT 1 1 rfl (by repeat constructor) | exact ldTΦ 1 1 rfl (by repeat constructor) | exact ldT 1 2 rfl (by repeat constructor) | exact ldTΦ 1 2 rfl (by repeat constructor) | exact ldT 1 3 rfl (by repeat constructor) | exact ldTΦ 1 3 rfl (by repeat constructor) | exact ldT 1 4 rfl (by repeat constructor) | exact ldTΦ 1 4 rfl (by repeat constructor) | exact ldT 1 5 rfl (by repeat constructor) | exact ldTΦ 1 5 rfl (by repeat constructor) | exact ldT 1 6 rfl (by repeat constructor) | exact ldO 0 rfl (by assumption) | exact ldO 1 rfl (by assumption) | exact ldO 2 rfl (by assumption) | exact ldO 3 rfl (by assumption) | exact ldOT 1 0 rfl (by assumption) (by repeat constructor) | exact ldOT 1 1 rfl (by assumption) (by repeat constructor) | exact ldOT 1 2 rfl (by assumption) (by repeat constructor) | exact ldOT 1 3 rfl (by assumption) (by repeat constructor)) | (first | exact ldO1 0 rfl (by assumption) rfl | exact ldO1 1 rfl (by assumption) rfl | exact ldO1 2 rfl (by assumption) rfl | exact ldO1 3 rfl (by assumption) rfl | exact ldO1 4 rfl (by assumption) rfl | exact ldO1 5 rfl (by assumption) rfl | exact ldM1 0 rfl (fun _ => rfl) (by assumption) rfl | exact ldM1 1 rfl (fun _ => rfl) (by assumption) rfl | exact ldM1 2 rfl (fun _ => rfl) (by assumption) rfl | exact ldM1 3 rfl (fun _ => rfl) (by assumption) rfl | exact ldM1 4 rfl (fun _ => rfl) (by assumption) rfl | exact ldM1 5 rfl (fun _ => rfl) (by assumption) rfl)))) ?_  -- 1:8 cable.go:70 t13 load
  refine J.gQ (Gd.one rfl rfl rfl (.t 6 rfl)) rfl rfl rfl (.g 0 rfl .nil) (fun hg => (Q.len Try.underlying24 (.t 0 rfl))) ?_  -- 1:9 cable.go:70 t14 call
  refine J.gQ (Gd.one rfl rfl rfl (.t 7 rfl)) rfl rfl rfl (.g 6 rfl (.g 0 rfl .nil)) (fun hg => (Q.lss (.t 0 rfl) (.t 1 rfl))) ?_  -- 1:10 cable.go:70 t15 binOp
  refine J.q rfl rfl rfl rfl (Q.and_ (.t 8 rfl) (.t 0 rfl)) ?_  -- 1:11 cable.go:70 t16 pick
  refine J.q rfl rfl rfl rfl (Q.assign (.t 0 rfl)) ?_  -- 1:12 cable.go:70 t4 assign
  refine J.end_ ?_
  refine C.keep (.cons 0 rfl .nil) ?_
  refine C.ret ?_
  refine X.ret1 rfl 0 rfl (fun w hA => ?_)
  exact PostV.eq hA rfl

theorem up_calls (w : World) (p : Nat) (k : Int) : Calls Try.prog 27 [.pointer (some ⟨p, 0, none⟩), .int .i64 k].toArray w (PostN (fun _ : Nat × Nat => True) (fun x => .func (.func 49) [].toArray [.pointer (some ⟨x.1, 0, none⟩), .pointer (some ⟨x.2, 0, none⟩)].toArray) (fun x => sep (bx x.1 3 [I64 k]) (bx x.2 57 [.pointer (some ⟨p, 0, none⟩)])) w) := by
  refine Calls.enter Try.func27 rfl rfl rfl ?_
  refine C.conseq (A' := St w no [] []) (fun _ e => by subst e; exact St.init _ [] (by simp)) ?_
  refine C.seq ?_
  refine C.reg ?_
  refine J.box rfl rfl rfl rfl (.t 0 rfl) rfl ?_; intro b2 hb2  -- 0:0 cable.go:61 t2 box
  refine J.box rfl rfl rfl rfl (.t 2 rfl) rfl ?_; intro b3 hb3  -- 0:1 cable.go:61 t3 box
  refine J.q rfl rfl rfl rfl (Q.assign .c) ?_  -- 0:2 cable.go:61 t4 assign
  refine J.end_ ?_
  refine C.keep (.cons 1 rfl (.cons 2 rfl .nil)) ?_
  refine C.seq ?_
  refine C.reg ?_
  refine J.q rfl rfl rfl rfl (Q.makeFunc .nil (.cons (.t 0 rfl) (.cons (.t 1 rfl) .nil))) ?_  -- 1:0 cable.go:62 t5 makeFunc
  refine J.q rfl rfl rfl rfl (Q.assign (.t 0 rfl)) ?_  -- 1:1 cable.go:62 t4 assign
  refine J.end_ ?_
  refine C.keep (.cons 0 rfl .nil) ?_
  refine C.ret ?_
  refine X.ret1 rfl 0 rfl (fun w hA => ?_)
  exact PostN.of (X := Nat × Nat) (b3, b2) trivial (St.join hA)

theorem up_iter (c : Cable) (b o cc p q b3 b2 : Nat) (k0 : Int) (hF : Fit c) (hk0 : k0 < c.nodes.length) : Iter Try.prog 49 [.pointer (some ⟨b3, 0, none⟩), .pointer (some ⟨b2, 0, none⟩)] (pathV c k0) (sep (bx b3 3 [I64 k0]) (bx b2 57 [.pointer (some ⟨p, 0, none⟩)])) (both (bx p 82 (c.tcells (some ⟨b, o, none⟩) cc q)) (rowO (some ⟨b, o, none⟩) 8 Nd.enc c.nodes)) := by
  intro l Γ I g₀ G Xg w hneed hY hI0 hmine hap hlt hmlt
  refine Calls.enter Try.func49 rfl rfl rfl ?_
  refine C.conseq (A' := St w (fun b => (I 0 g₀).U b ∨ (sep (bx b3 3 [I64 k0]) (bx b2 57 [.pointer (some ⟨p, 0, none⟩)])).U b) [I 0 g₀, bx b3 3 [I64 k0], bx b2 57 [.pointer (some ⟨p, 0, none⟩)]] []) (fun _ e => by subst e; exact iter_start hI0 hmine hap hlt hmlt) ?_
  refine C.block ?_
  refine C.loop_0 (G := { g : Nat × Int × Γ // (pathV c k0).drop g.1 = pathV c g.2.1 ∧ g.2.1 < c.nodes.length ∧ g.1 ≤ (pathV c k0).length }) (fun g => St w (fun b => (I 0 g₀).U b ∨ (sep (bx b3 3 [I64 k0]) (bx b2 57 [.pointer (some ⟨p, 0, none⟩)])).U b) [I g.1.1 g.1.2.2, bx b3 3 [I64 g.1.2.1], bx b2 57 [.pointer (some ⟨p, 0, none⟩)]] []) (fun g => (g.1.2.1 + 1).toNat) (⟨(0, k0, g₀), rfl, hk0, Nat.zero_le _⟩)  ?_ ?_
  ·
    (exact fun _ h => h)
  ·
    rintro ⟨⟨i, k, γ⟩, hd, hkn, hi⟩
    dsimp only
    dsimp only at hd hkn hi
    refine C.seq ?_
    refine C.seq ?_
    refine C.reg ?_
    refine J.q rfl rfl rfl rfl (Q.load (.t 1 rfl) Try.isAgg3 (by first | (first | exact ldT 1 0 rfl (by repeat constructor) | exact ldTΦ 1 0 rfl (by repeat constructor) | exact ldT 1 1 rfl (by repeat constructor) | exact ldTΦ 1 1 rfl (by repeat constructor) | exact ldT 1 2 rfl (by repeat constructor) | exact ldTΦ 1 2 rfl (by repeat constructor) | exact ldT 1 3 rfl (by repeat constructor) | exact ldTΦ 1 3 rfl (by repeat constructor) | exact ldT 1 4 rfl (by repeat constructor) | exact ldTΦ 1 4 rfl (by repeat constructor) | exact ldT 1 5 rfl (by repeat constructor) | exact ldTΦ 1 5 rfl (by repeat constructor) | exact ldT 1 6 rfl (by repeat constructor) | exact ldO 0 rfl (by assumption) | exact ldO 1 rfl (by assumption) | exact ldO 2 rfl (by assumption) | exact ldO 3 rfl (by assumption) | exact ldOT 1 0 rfl (by assumption) (by repeat constructor) | exact ldOT 1 1 rfl (by assumption) (by repeat constructor) | exact ldOT 1 2 rfl (by assumption) (by repeat constructor) | exact ldOT 1 3 rfl (by assumption) (by repeat constructor)) | (first | exact ldO1 0 rfl (by assumption) rfl | exact ldO1 1 rfl (by assumption) rfl | exact ldO1 2 rfl (by assumption) rfl | exact ldO1 3 rfl (by assumption) rfl | exact ldO1 4 rfl (by assumption) rfl | exact ldO1 5 rfl (by assumption) rfl | exact ldM1 0 rfl (fun _ => rfl) (by assumption) rfl | exact ldM1 1 rfl (fun _ => rfl) (by assumption) rfl | exact ldM1 2 rfl (fun _ => rfl) (by assumption) rfl | exact ldM1 3 rfl (fun _ => rfl) (by assumption) rfl | exact ldM1 4 rfl (fun _ => rfl) (by assumption) rfl | exact ldM1 5 rfl (fun _ => rfl) (by assumption) rfl))) ?_  -- 0:0 cable.go:63 t4 load
    refine J.q rfl rfl rfl rfl (Q.geq (.t 0 rfl) .c) ?_  -- 0:1 cable.go:63 t5 binOp
    refine J.q rfl rfl rfl rfl (Q.move (.t 0 rfl)) ?_  -- 0:2 cable.go:63 t6 move
    refine J.split 0 rfl (fun hk => ?_) (fun hk => ?_)
    ·
      have hk' := hk; simp only [decide_eq_true_eq, decide_eq_false_iff_not, Bool.and_eq_true, Bool.or_eq_true, Bool.and_eq_false_iff, Bool.or_eq_false_iff, Bool.not_eq_true', Bool.not_eq_false', beq_iff_eq, bne_iff_ne, Int.not_lt, Int.not_le, Decidable.not_not, ne_eq] at hk'
      refine J.gT (Gd.one rfl rfl rfl (.t 0 rfl)) (by simp [hk]) ?_  -- 0:3 cable.go:63 t7 move
      refine J.q rfl rfl rfl rfl (Q.move (.t 3 rfl)) ?_  -- 0:3 cable.go:63 t7 move
      refine J.gT (Gd.one rfl rfl rfl (.t 1 rfl)) (by simp [hk]) ?_  -- 0:4 cable.go:63 t8 load
      refine J.q rfl rfl rfl rfl (Q.load (.t 5 rfl) Try.isAgg3 (by first | (first | exact ldT 1 0 rfl (by repeat constructor) | exact ldTΦ 1 0 rfl (by repeat constructor) | exact ldT 1 1 rfl (by repeat constructor) | exact ldTΦ 1 1 rfl (by repeat constructor) | exact ldT 1 2 rfl (by repeat constructor) | exact ldTΦ 1 2 rfl (by repeat constructor) | exact ldT 1 3 rfl (by repeat constructor) | exact ldTΦ 1 3 rfl (by repeat constructor) | exact ldT 1 4 rfl (by repeat constructor) | exact ldTΦ 1 4 rfl (by repeat constructor) | exact ldT 1 5 rfl (by repeat constructor) | exact ldTΦ 1 5 rfl (by repeat constructor) | exact ldT 1 6 rfl (by repeat constructor) | exact ldO 0 rfl (by assumption) | exact ldO 1 rfl (by assumption) | exact ldO 2 rfl (by assumption) | exact ldO 3 rfl (by assumption) | exact ldOT 1 0 rfl (by assumption) (by repeat constructor) | exact ldOT 1 1 rfl (by assumption) (by repeat constructor) | exact ldOT 1 2 rfl (by assumption) (by repeat constructor) | exact ldOT 1 3 rfl (by assumption) (by repeat constructor)) | (first | exact ldO1 0 rfl (by assumption) rfl | exact ldO1 1 rfl (by assumption) rfl | exact ldO1 2 rfl (by assumption) rfl | exact ldO1 3 rfl (by assumption) rfl | exact ldO1 4 rfl (by assumption) rfl | exact ldO1 5 rfl (by assumption) rfl | exact ldM1 0 rfl (fun _ => rfl) (by assumption) rfl | exact ldM1 1 rfl (fun _ => rfl) (by assumption) rfl | exact ldM1 2 rfl (fun _ => rfl) (by assumption) rfl | exact ldM1 3 rfl (fun _ => rfl) (by assumption) rfl | exact ldM1 4 rfl (fun _ => rfl) (by assumption) rfl | exact ldM1 5 rfl (fun _ => rfl) (by assumption) rfl))) ?_  -- 0:4 cable.go:63 t8 load
      
      refine J.gT (Gd.one rfl rfl rfl (.t 2 rfl)) (by simp [hk]) ?_  -- 0:5 cable.go:63 t9 call
      rw [pathV_step hF hk'] at hd
      obtain ⟨hx, hd2, hil⟩ := drop_cons hd
      refine J.yield (I := I i γ) (I' := I (i + 1)) (X := Xg) rfl rfl rfl rfl (.t 1 rfl) (.cons (.t 0 rfl) .nil) (fun w hI hlt => hY i γ w _ (nth_of_get hx) hI hlt) ?_ ?_
      ·
        intro γ'
        refine J.q rfl rfl rfl rfl (Q.pickTb (.t 3 rfl) (by exact hk) (.t 0 rfl)) ?_  -- 0:6 cable.go:63 t10 pick
        refine J.end_ ?_
        refine C.keep (.cons 0 rfl (.cons 7 rfl (.cons 8 rfl (.cons 9 rfl .nil)))) ?_
        refine C.cond (.t 0 rfl) (fun c0 => ?_) (fun c0 => ?_)  -- cond 0
        ·
          obtain ⟨nd, hx⟩ := get_lt (xs := c.nodes) (i := k.toNat) (by omega)
          have hp1 : c.par k.toNat = nd.parent := by simp only [Cable.par, hx]
          have hp2 := hF.par_lt (k := k.toNat)
          refine C.skip ?_
          refine X.go ?_
          refine C.keep (.cons 1 rfl (.cons 2 rfl (.cons 3 rfl .nil))) ?_
          refine C.block ?_
          refine C.drawS ?_
          refine JC.q 0 rfl rfl rfl rfl (Q.load (.t 2 rfl) Try.isAgg57 (by first | (first | exact ldT 1 0 rfl (by repeat constructor) | exact ldTΦ 1 0 rfl (by repeat constructor) | exact ldT 1 1 rfl (by repeat constructor) | exact ldTΦ 1 1 rfl (by repeat constructor) | exact ldT 1 2 rfl (by repeat constructor) | exact ldTΦ 1 2 rfl (by repeat constructor) | exact ldT 1 3 rfl (by repeat constructor) | exact ldTΦ 1 3 rfl (by repeat constructor) | exact ldT 1 4 rfl (by repeat constructor) | exact ldTΦ 1 4 rfl (by repeat constructor) | exact ldT 1 5 rfl (by repeat constructor) | exact ldTΦ 1 5 rfl (by repeat constructor) | exact ldT 1 6 rfl (by repeat constructor) | exact ldO 0 rfl (by assumption) | exact ldO 1 rfl (by assumption) | exact ldO 2 rfl (by assumption) | exact ldO 3 rfl (by assumption) | exact ldOT 1 0 rfl (by assumption) (by repeat constructor) | exact ldOT 1 1 rfl (by assumption) (by repeat constructor) | exact ldOT 1 2 rfl (by assumption) (by repeat constructor) | exact ldOT 1 3 rfl (by assumption) (by repeat constructor)) | (first | exact ldO1 0 rfl (by assumption) rfl | exact ldO1 1 rfl (by assumption) rfl | exact ldO1 2 rfl (by assumption) rfl | exact ldO1 3 rfl (by assumption) rfl | exact ldO1 4 rfl (by assumption) rfl | exact ldO1 5 rfl (by assumption) rfl | exact ldM1 0 rfl (fun _ => rfl) (by assumption) rfl | exact ldM1 1 rfl (fun _ => rfl) (by assumption) rfl | exact ldM1 2 rfl (fun _ => rfl) (by assumption) rfl | exact ldM1 3 rfl (fun _ => rfl) (by assumption) rfl | exact ldM1 4 rfl (fun _ => rfl) (by assumption) rfl | exact ldM1 5 rfl (fun _ => rfl) (by assumption) rfl))) ?_  -- 1:0 cable.go:64 t11 load
          refine JC.q 1 rfl rfl rfl rfl (Q.nilCheck (.t 0 rfl)) ?_  -- 1:1 cable.go:64 t12 nilCheck
          refine JC.q 2 rfl rfl rfl rfl (Q.fa 0 Try.underlying82 rfl Try.sizeOf26 rfl rfl (.t 0 rfl)) ?_  -- 1:2 cable.go:64 t13 fieldAddr
          refine JC.q 3 rfl rfl rfl rfl (Q.fa 2 Try.underlying26 rfl Try.sizeOf24 rfl rfl (.t 0 rfl)) ?_  -- 1:3 cable.go:64 t14 fieldAddr
          refine JC.q 4 rfl rfl rfl rfl (Q.load (.t 0 rfl) Try.isAgg24 (by exact ldNB 1 (fun w hA => (hneed _ _ w (hA.get 0 rfl)).1) (by (repeat constructor); done))) ?_  -- 1:4 cable.go:64 t15 load
          refine JC.q 5 rfl rfl rfl rfl (Q.load (.t 6 rfl) Try.isAgg3 (by first | (first | exact ldT 1 0 rfl (by repeat constructor) | exact ldTΦ 1 0 rfl (by repeat constructor) | exact ldT 1 1 rfl (by repeat constructor) | exact ldTΦ 1 1 rfl (by repeat constructor) | exact ldT 1 2 rfl (by repeat constructor) | exact ldTΦ 1 2 rfl (by repeat constructor) | exact ldT 1 3 rfl (by repeat constructor) | exact ldTΦ 1 3 rfl (by repeat constructor) | exact ldT 1 4 rfl (by repeat constructor) | exact ldTΦ 1 4 rfl (by repeat constructor) | exact ldT 1 5 rfl (by repeat constructor) | exact ldTΦ 1 5 rfl (by repeat constructor) | exact ldT 1 6 rfl (by repeat constructor) | exact ldO 0 rfl (by assumption) | exact ldO 1 rfl (by assumption) | exact ldO 2 rfl (by assumption) | exact ldO 3 rfl (by assumption) | exact ldOT 1 0 rfl (by assumption) (by repeat constructor) | exact ldOT 1 1 rfl (by assumption) (by repeat constructor) | exact ldOT 1 2 rfl (by assumption) (by repeat constructor) | exact ldOT 1 3 rfl (by assumption) (by repeat constructor)) | (first | exact ldO1 0 rfl (by assumption) rfl | exact ldO1 1 rfl (by assumption) rfl | exact ldO1 2 rfl (by assumption) rfl | exact ldO1 3 rfl (by assumption) rfl | exact ldO1 4 rfl (by assumption) rfl | exact ldO1 5 rfl (by assumption) rfl | exact ldM1 0 rfl (fun _ => rfl) (by assumption) rfl | exact ldM1 1 rfl (fun _ => rfl) (by assumption) rfl | exact ldM1 2 rfl (fun _ => rfl) (by assumption) rfl | exact ldM1 3 rfl (fun _ => rfl) (by assumption) rfl | exact ldM1 4 rfl (fun _ => rfl) (by assumption) rfl | exact ldM1 5 rfl (fun _ => rfl) (by assumption) rfl))) ?_  -- 1:5 cable.go:64 t16 load
          refine JC.q 6 rfl rfl rfl rfl (Q.indexAddr Try.underlying24 Try.sizeOf40 (.t 1 rfl) (.t 0 rfl) (by omega)) ?_  -- 1:6 cable.go:64 t17 indexAddr
          refine JC.q 7 rfl rfl rfl rfl (Q.fa 0 Try.underlying40 rfl Try.sizeOf3 rfl rfl (.t 0 rfl)) ?_  -- 1:7 cable.go:64 t18 fieldAddr
          refine JC.q 8 rfl rfl rfl rfl (Q.load (.t 0 rfl) Try.isAgg3 (by exact ldNO 1 (fun w hA => (hneed _ _ w (hA.get 0 rfl)).2) hx (by (repeat constructor); done))) ?_  -- 1:8 cable.go:64 t19 load
          refine JC.tail [0, 1, 3, 7, 15, 0, 63, 127, 255, 511] 1 mixed (by kernel_rfl) (by kernel_rfl) (by (first | (exact fun _ h => h) | (exact fun _ h => h.dropM) | (exact fun _ h => h.dropM.dropM) | (exact fun _ h => h.sub (by (repeat (first | exact List.Sublist.refl _ | exact List.nil_sublist _ | apply List.Sublist.cons_cons | apply List.Sublist.cons)); done)) | (exact fun _ h => h.subΦ (fun i hi => List.mem_cons_of_mem _ hi)))) ?_
          refine JT.pick [9] (by kernel_rfl) (.cons (DStep.of rfl ?_) .nil)
          refine J.s rfl rfl rfl (S.storeP (.t 10 rfl) (.t 0 rfl) Try.sizeOf3 rfl rfl (by (first | exact Nd.enc_one _ | (first | exact Span.enc_one _ | ((intro u hu; simp at hu; first | done | ((repeat' (rcases hu with rfl | hu)) <;> (try subst hu) <;> rfl)))))) (by (repeat (first | exact Upd.here | apply Upd.there))) (by (repeat constructor); done)) ?_  -- 1:9 cable.go:64 tNone store
          refine J.finF rfl rfl ?_
          refine JT.end_ ?_
          refine X.inNormal ?_
          refine X.nx (⟨(i + 1, nd.parent, γ'), by rw [← hp1]; exact hd2, by simp only; omega, by simp only; omega⟩) (.cons 9 (by (first | rfl | (simp; done))) (.cons 10 (by (first | rfl | (simp; done))) (.cons 11 (by (first | rfl | (simp; done))) .nil))) ?_ ?_
          ·
            exact fun _ h => h
          ·
            simp only; omega
        ·
          exact absurd c0 (by simp [hk])
      ·
        intro g
        refine J.q rfl rfl rfl rfl (Q.pickTb (.t 3 rfl) (by exact hk) (.t 0 rfl)) ?_  -- 0:6 cable.go:63 t10 pick
        refine J.end_ ?_
        refine C.keep (.cons 0 rfl (.cons 7 rfl (.cons 8 rfl (.cons 9 rfl .nil)))) ?_
        refine C.cond (.t 0 rfl) (fun c1 => ?_) (fun c1 => ?_)  -- cond 1
        ·
          exact absurd c1 (by simp)
        ·
          refine C.exit ?_
          refine X.thenExit ?_
          refine X.thenExit ?_
          refine X.inHit ?_
          refine X.end0 rfl (fun w hA => ?_)
          exact ⟨⟨_, rfl⟩, hA.eff, .inr ⟨g, hA.get 0 rfl⟩⟩
    ·
      have hk' := hk; simp only [decide_eq_true_eq, decide_eq_false_iff_not, Bool.and_eq_true, Bool.or_eq_true, Bool.and_eq_false_iff, Bool.or_eq_false_iff, Bool.not_eq_true', Bool.not_eq_false', beq_iff_eq, bne_iff_ne, Int.not_lt, Int.not_le, Decidable.not_not, ne_eq] at hk'
      refine J.gF (Gd.one rfl rfl rfl (.t 0 rfl)) (by simp [hk]) rfl rfl ?_  -- 0:3 cable.go:63 t7 move
      refine J.gF (Gd.one rfl rfl rfl (.t 0 rfl)) (by simp [hk]) rfl rfl ?_  -- 0:4 cable.go:63 t8 load
      
      refine J.gF (Gd.one rfl rfl rfl (.t 0 rfl)) (by simp [hk]) rfl rfl ?_  -- 0:5 cable.go:63 t9 call
      refine J.q rfl rfl rfl rfl (Q.pickFb (.t 0 rfl) (by exact hk) .c) ?_  -- 0:6 cable.go:63 t10 pick
      refine J.end_ ?_
      refine C.keep (.cons 0 rfl (.cons 4 rfl (.cons 5 rfl (.cons 6 rfl .nil)))) ?_
      refine C.cond (.t 0 rfl) (fun c2 => ?_) (fun c2 => ?_)  -- cond 2
      ·
        exact absurd c2 (by simp [hk])
      ·
        refine C.exit ?_
        refine X.thenExit ?_
        refine X.thenExit ?_
        refine X.inHit ?_
        refine X.end0 rfl (fun w hA => ?_)
        rw [show pathV c k = [] by rw [pathV, path_neg (show k < 0 by omega)]; rfl] at hd
        have hi2 := drop_nil hd hi
        subst hi2
        exact ⟨⟨_, rfl⟩, hA.eff, .inl ⟨γ, hA.get 0 rfl⟩⟩

end Go.Proofs
namespace Go.Proofs
open Go Go.J Go.RowKit Go.Cab
set_option maxRecDepth 4096
set_option linter.unusedSimpArgs false
set_option linter.unusedVariables false
theorem inf2 : Inf Try.prog 2 [.int .i64 0] 8 := ⟨Try.t2, .int .i64 0, by kernel_rfl, by kernel_rfl, rfl, rfl, rfl⟩

theorem badAmp_calls (w : World) (x : Int) : Calls Try.prog 44 [.int .i64 x].toArray w (PostV (.bool (badAmp x)) w) := by
  refine Calls.enter Try.func44 rfl rfl rfl ?_
  refine C.conseq (A' := St w no [] []) (fun _ e => by subst e; exact St.init _ [] (by simp)) ?_
  refine C.seq ?_
  refine C.reg ?_
  refine J.q rfl rfl rfl rfl (Q.assign .c) ?_  -- 0:0 cable.go:208 t2 assign
  refine J.end_ ?_
  refine C.keep (.cons 1 rfl .nil) ?_
  refine C.seq ?_
  refine C.reg ?_
  refine J.q rfl rfl rfl rfl (Q.move (.t 0 rfl)) ?_  -- 1:0 cable.go:208 t3 move
  refine J.q rfl rfl rfl rfl (Q.lss (.t 0 rfl) .c) ?_  -- 1:1 cable.go:208 t4 binOp
  refine J.q rfl rfl rfl rfl (Q.move (.t 0 rfl)) ?_  -- 1:2 cable.go:208 t5 move
  refine J.gQ (Gd.one rfl rfl rfl (.t 0 rfl)) rfl rfl rfl (.p 3 rfl .nil) (fun hg => (Q.move (.t 0 rfl))) ?_  -- 1:3 cable.go:208 t6 move
  refine J.gQ (Gd.one rfl rfl rfl (.t 1 rfl)) rfl rfl rfl (.g 0 rfl .nil) (fun hg => (Q.gtr (.t 0 rfl) .c)) ?_  -- 1:4 cable.go:208 t7 binOp
  refine J.q rfl rfl rfl rfl (Q.or_ (.t 2 rfl) (.t 0 rfl)) ?_  -- 1:5 cable.go:208 t8 pick
  refine J.q rfl rfl rfl rfl (Q.assign (.t 0 rfl)) ?_  -- 1:6 cable.go:208 t2 assign
  refine J.end_ ?_
  refine C.keep (.cons 0 rfl .nil) ?_
  refine C.ret ?_
  refine X.ret1 rfl 0 rfl (fun w hA => ?_)
  exact PostV.eq hA rfl

theorem IndexFunc44_calls (w : World) (a : Option Addr) (c : Nat) (xs : List Int) (hr : (rowO a 1 enI xs).ok w) (hn : xs.length < 9223372036854775807) : Calls Try.prog 62 [.slice a xs.length c, .func (.func 44) [].toArray [].toArray].toArray w (PostV (.int .i64 (idx badAmp xs)) w) := by
  refine Calls.enter Try.func62 rfl rfl rfl ?_
  refine C.conseq (A' := St w no [] [rowO a 1 enI xs]) (fun _ e => by subst e; exact St.init _ _ (by simpa using hr)) ?_
  refine C.seq ?_
  refine C.reg ?_
  refine J.q rfl rfl rfl rfl (Q.assign .c) ?_  -- 0:0 slices.go:107 t4 assign
  refine J.end_ ?_
  refine C.keep (.cons 1 rfl (.cons 2 rfl .nil)) ?_
  refine C.seq ?_
  refine C.seq ?_
  refine C.reg ?_
  refine J.q rfl rfl rfl rfl (Q.move (.t 0 rfl)) ?_  -- 1:0 slices.go:108 t6 move
  refine J.q rfl rfl rfl rfl (Q.len Try.underlying32 (.t 0 rfl)) ?_  -- 1:1 slices.go:108 t7 call
  refine J.q rfl rfl rfl rfl (Q.move .c) ?_  -- 1:2 slices.go:108 t8 move
  refine J.end_ ?_
  refine C.keep (.cons 0 rfl (.cons 1 rfl (.cons 3 rfl (.cons 4 rfl .nil)))) ?_
  refine C.block ?_
  refine C.loop_1 (fun i => .int .i64 (i.1 : Int)) (G := { i : Nat // i ≤ xs.length ∧ ∀ s ∈ xs.take i, badAmp s = false }) (fun i => St w no [] [rowO a 1 enI xs]) (fun i => xs.length - i.1) (⟨0, by simp⟩) (by (first | rfl | (simp; done))) ?_ ?_
  ·
    (exact fun _ h => h)
  ·
    rintro ⟨i, hi, hgood⟩
    dsimp only
    refine C.seq ?_
    refine C.reg ?_
    refine J.q rfl rfl rfl rfl (Q.lss (.t 0 rfl) (.t 1 rfl)) ?_  -- 2:0 slices.go:108 t9 binOp
    refine J.end_ ?_
    refine C.seq ?_
    refine C.cond (.t 0 rfl) (fun c0 => ?_) (fun c0 => ?_)  -- cond 0
    ·
      simp only [decide_eq_true_eq, decide_eq_false_iff_not, Bool.and_eq_true, Bool.or_eq_true, Bool.and_eq_false_iff, Bool.or_eq_false_iff, Bool.not_eq_true', Bool.not_eq_false', beq_iff_eq, bne_iff_ne, Int.not_lt, Int.not_le, Decidable.not_not, ne_eq] at c0
      have hlt : i < xs.length := by omega
      obtain ⟨x, hx⟩ := get_lt hlt
      obtain ⟨b, o, rfl⟩ := rowO.addr hr.1 (by omega)
      refine C.skip ?_
      refine X.go ?_
      refine C.keep (.cons 1 rfl (.cons 2 rfl (.cons 3 rfl (.cons 4 rfl .nil)))) ?_
      refine C.seq ?_
      refine C.block ?_
      refine C.seq ?_
      refine C.reg ?_
      refine J.q rfl rfl rfl rfl (Q.move (.t 0 rfl)) ?_  -- 3:0 slices.go:108 t10 move
      refine J.q rfl rfl rfl rfl (Q.assign (.t 0 rfl)) ?_  -- 3:1 slices.go:108 t5 assign
      refine J.end_ ?_
      refine C.keep (.cons 0 rfl (.cons 2 rfl (.cons 3 rfl (.cons 4 rfl (.cons 5 rfl .nil))))) ?_
      refine C.seq ?_
      refine C.reg ?_
      refine J.q rfl rfl rfl rfl (Q.move (.t 4 rfl)) ?_  -- 4:0 slices.go:109 t11 move
      refine J.q rfl rfl rfl rfl (Q.move (.t 4 rfl)) ?_  -- 4:1 slices.go:109 t12 move
      refine J.q rfl rfl rfl rfl (Q.move (.t 2 rfl)) ?_  -- 4:2 slices.go:109 t13 move
      refine J.q rfl rfl rfl rfl (Q.indexAddr Try.underlying32 Try.sizeOf2 (.t 1 rfl) (.t 0 rfl) (by omega)) ?_  -- 4:3 slices.go:109 t14 indexAddr
      refine J.q rfl rfl rfl rfl (Q.load (.t 0 rfl) Try.isAgg2 (by first | (first | exact ldT 1 0 rfl (by repeat constructor) | exact ldTΦ 1 0 rfl (by repeat constructor) | exact ldT 1 1 rfl (by repeat constructor) | exact ldTΦ 1 1 rfl (by repeat constructor) | exact ldT 1 2 rfl (by repeat constructor) | exact ldTΦ 1 2 rfl (by repeat constructor) | exact ldT 1 3 rfl (by repeat constructor) | exact ldTΦ 1 3 rfl (by repeat constructor) | exact ldT 1 4 rfl (by repeat constructor) | exact ldTΦ 1 4 rfl (by repeat constructor) | exact ldT 1 5 rfl (by repeat constructor) | exact ldTΦ 1 5 rfl (by repeat constructor) | exact ldT 1 6 rfl (by repeat constructor) | exact ldO 0 rfl (by assumption) | exact ldO 1 rfl (by assumption) | exact ldO 2 rfl (by assumption) | exact ldO 3 rfl (by assumption) | exact ldOT 1 0 rfl (by assumption) (by repeat constructor) | exact ldOT 1 1 rfl (by assumption) (by repeat constructor) | exact ldOT 1 2 rfl (by assumption) (by repeat constructor) | exact ldOT 1 3 rfl (by assumption) (by repeat constructor)) | (first | exact ldO1 0 rfl (by assumption) rfl | exact ldO1 1 rfl (by assumption) rfl | exact ldO1 2 rfl (by assumption) rfl | exact ldO1 3 rfl (by assumption) rfl | exact ldO1 4 rfl (by assumption) rfl | exact ldO1 5 rfl (by assumption) rfl | exact ldM1 0 rfl (fun _ => rfl) (by assumption) rfl | exact ldM1 1 rfl (fun _ => rfl) (by assumption) rfl | exact ldM1 2 rfl (fun _ => rfl) (by assumption) rfl | exact ldM1 3 rfl (fun _ => rfl) (by assumption) rfl | exact ldM1 4 rfl (fun _ => rfl) (by assumption) rfl | exact ldM1 5 rfl (fun _ => rfl) (by assumption) rfl))) ?_  -- 4:4 slices.go:109 t15 load
      refine J.callV rfl rfl rfl rfl (run_closure (first := []) Try.call44 (.t 4 rfl) (.cons (.t 0 rfl) .nil) rfl) (fun w hA => badAmp_calls w x) ?_  -- 4:5 slices.go:109 t16 call
      refine J.end_ ?_
      refine C.keep (.cons 0 rfl (.cons 6 rfl (.cons 7 rfl (.cons 8 rfl (.cons 9 rfl (.cons 10 rfl .nil)))))) ?_
      refine C.cond (.t 0 rfl) (fun c1 => ?_) (fun c1 => ?_)  -- cond 1
      ·
        refine C.seq ?_
        refine C.reg ?_
        refine J.q rfl rfl rfl rfl (Q.move (.t 1 rfl)) ?_  -- 5:0 slices.go:110 t17 move
        refine J.q rfl rfl rfl rfl (Q.assign (.t 0 rfl)) ?_  -- 5:1 slices.go:110 t4 assign
        refine J.end_ ?_
        refine C.keep (.cons 0 rfl .nil) ?_
        refine C.ret ?_
        refine X.inRet ?_
        refine X.thenRet ?_
        refine X.thenRet ?_
        refine X.inRet ?_
        refine X.thenRet ?_
        refine X.ret1 rfl 0 rfl (fun w hA => ?_)
        exact PostV.eq hA (by rw [idx_found hx hgood c1])
      ·
        refine C.skip ?_
        refine X.inNormal ?_
        refine X.go ?_
        refine C.keep (.cons 2 rfl (.cons 3 rfl (.cons 4 rfl (.cons 5 rfl .nil)))) ?_
        refine C.reg ?_
        refine J.q rfl rfl rfl rfl (Q.add (.t 0 rfl) .c (by omega)) ?_  -- 6:0 slices.go:108 t18 binOp
        refine J.keep (.cons 0 rfl (.cons 2 rfl (.cons 3 rfl (.cons 4 rfl .nil)))) ?_
        refine J.q rfl rfl rfl rfl (Q.move (.t 0 rfl)) ?_  -- 6:1 slices.go:108 t8 move
        refine J.done ?_
        refine X.nx (⟨i + 1, by omega, take_succ_all hx hgood c1⟩) (.cons 0 (by (first | rfl | (simp; done))) (.cons 2 (by (first | rfl | (simp; done))) (.cons 3 (by (first | rfl | (simp; done))) (.cons 4 (by (first | rfl | (simp; done))) .nil)))) ?_ ?_
        ·
          (exact fun _ h => h)
        ·
          simp; omega
    ·
      simp only [decide_eq_true_eq, decide_eq_false_iff_not, Bool.and_eq_true, Bool.or_eq_true, Bool.and_eq_false_iff, Bool.or_eq_false_iff, Bool.not_eq_true', Bool.not_eq_false', beq_iff_eq, bne_iff_ne, Int.not_lt, Int.not_le, Decidable.not_not, ne_eq] at c0
      refine C.exit ?_
      refine X.thenExit ?_
      refine X.thenExit ?_
      refine X.inHit ?_
      refine X.go ?_
      refine C.keep .nil ?_
      refine C.seq ?_
      refine C.reg ?_
      refine J.q rfl rfl rfl rfl (Q.assign .c) ?_  -- 7:0 slices.go:113 t4 assign
      refine J.end_ ?_
      refine C.ret ?_
      refine X.ret1 rfl 0 rfl (fun w hA => ?_)
      exact PostV.eq hA (by rw [idx_none (by rw [List.take_of_length_le (by omega)] at hgood; exact hgood)])

theorem ContainsFunc44_calls (w : World) (a : Option Addr) (c : Nat) (xs : List Int) (hr : (rowO a 1 enI xs).ok w) (hn : xs.length < 9223372036854775807) : Calls Try.prog 43 [.slice a xs.length c, .func (.func 44) [].toArray [].toArray].toArray w (PostV (.bool (xs.any badAmp)) w) := by
  refine Calls.enter Try.func43 rfl rfl rfl ?_
  refine C.conseq (A' := St w no [] [rowO a 1 enI xs]) (fun _ e => by subst e; exact St.init _ _ (by simpa using hr)) ?_
  refine C.seq ?_
  refine C.reg ?_
  refine J.q rfl rfl rfl rfl (Q.assign .c) ?_  -- 0:0 slices.go:124 t4 assign
  refine J.end_ ?_
  refine C.keep (.cons 1 rfl (.cons 2 rfl .nil)) ?_
  refine C.seq ?_
  refine C.reg ?_
  refine J.q rfl rfl rfl rfl (Q.move (.t 0 rfl)) ?_  -- 1:0 slices.go:125 t5 move
  refine J.q rfl rfl rfl rfl (Q.move (.t 2 rfl)) ?_  -- 1:1 slices.go:125 t6 move
  refine J.callV rfl rfl rfl rfl (run_static Try.call62 .f (.cons (.t 1 rfl) (.cons (.t 0 rfl) .nil)) rfl) (fun w hA => IndexFunc44_calls w a c xs (hA.ok (r := rowO a 1 enI xs) 0 rfl) hn) ?_  -- 1:2 slices.go:125 t7 call
  refine J.q rfl rfl rfl rfl (Q.geq (.t 0 rfl) .c) ?_  -- 1:3 slices.go:125 t8 binOp
  refine J.q rfl rfl rfl rfl (Q.assign (.t 0 rfl)) ?_  -- 1:4 slices.go:125 t4 assign
  refine J.end_ ?_
  refine C.keep (.cons 0 rfl .nil) ?_
  refine C.ret ?_
  refine X.ret1 rfl 0 rfl (fun w hA => ?_)
  exact PostV.eq hA (by rw [idx_any])

theorem checkAmps_calls (w : World) (c : Cable) (a : Option Addr) (cc p q : Nat) (la : Option Addr) (lc : Nat) (xs : List Int) (hn : c.nodes.length ≤ 60) (ht : (bx p 82 (c.tcells a cc q)).ok w) (hr : (rowO la 1 enI xs).ok w) : Calls Try.prog 24 [.pointer (some ⟨p, 0, none⟩), .slice la xs.length lc].toArray w (PostV (.int .i64 (ampsV c.nodes.length xs)) w) := by
  refine Calls.enter Try.func24 rfl rfl rfl ?_
  refine C.conseq (A' := St w no [] [bx p 82 (c.tcells a cc q), rowO la 1 enI xs]) (fun _ e => by subst e; exact St.init _ _ (by simp [ht, hr])) ?_
  refine C.seq ?_
  refine C.reg ?_
  refine J.q rfl rfl rfl rfl (Q.assign .c) ?_  -- 0:0 cable.go:204 t4 assign
  refine J.end_ ?_
  refine C.keep (.cons 1 rfl (.cons 2 rfl .nil)) ?_
  refine C.seq ?_
  refine C.seq ?_
  refine C.reg ?_
  refine J.q rfl rfl rfl rfl (Q.move (.t 1 rfl)) ?_  -- 1:0 cable.go:205 t5 move
  refine J.q rfl rfl rfl rfl (Q.len Try.underlying32 (.t 0 rfl)) ?_  -- 1:1 cable.go:205 t6 call
  refine J.q rfl rfl rfl rfl (Q.move (.t 2 rfl)) ?_  -- 1:2 cable.go:205 t7 move
  refine J.q rfl rfl rfl rfl (Q.nilCheck (.t 0 rfl)) ?_  -- 1:3 cable.go:205 t8 nilCheck
  refine J.q rfl rfl rfl rfl (Q.fa 0 Try.underlying82 rfl Try.sizeOf26 rfl rfl (.t 0 rfl)) ?_  -- 1:4 cable.go:205 t9 fieldAddr
  refine J.q rfl rfl rfl rfl (Q.fa 2 Try.underlying26 rfl Try.sizeOf24 rfl rfl (.t 0 rfl)) ?_  -- 1:5 cable.go:205 t10 fieldAddr
  refine J.q rfl rfl rfl rfl (Q.load (.t 0 rfl) Try.isAgg24 (by first | (first | exact ldT 1 0 rfl (by repeat constructor) | exact ldTΦ 1 0 rfl (by repeat constructor) | exact ldT 1 1 rfl (by repeat constructor) | exact ldTΦ 1 1 rfl (by repeat constructor) | exact ldT 1 2 rfl (by repeat constructor) | exact ldTΦ 1 2 rfl (by repeat constructor) | exact ldT 1 3 rfl (by repeat constructor) | exact ldTΦ 1 3 rfl (by repeat constructor) | exact ldT 1 4 rfl (by repeat constructor) | exact ldTΦ 1 4 rfl (by repeat constructor) | exact ldT 1 5 rfl (by repeat constructor) | exact ldTΦ 1 5 rfl (by repeat constructor) | exact ldT 1 6 rfl (by repeat constructor) | exact ldO 0 rfl (by assumption) | exact ldO 1 rfl (by assumption) | exact ldO 2 rfl (by assumption) | exact ldO 3 rfl (by assumption) | exact ldOT 1 0 rfl (by assumption) (by repeat constructor) | exact ldOT 1 1 rfl (by assumption) (by repeat constructor) | exact ldOT 1 2 rfl (by assumption) (by repeat constructor) | exact ldOT 1 3 rfl (by assumption) (by repeat constructor)) | (first | exact ldO1 0 rfl (by assumption) rfl | exact ldO1 1 rfl (by assumption) rfl | exact ldO1 2 rfl (by assumption) rfl | exact ldO1 3 rfl (by assumption) rfl | exact ldO1 4 rfl (by assumption) rfl | exact ldO1 5 rfl (by assumption) rfl | exact ldM1 0 rfl (fun _ => rfl) (by assumption) rfl | exact ldM1 1 rfl (fun _ => rfl) (by assumption) rfl | exact ldM1 2 rfl (fun _ => rfl) (by assumption) rfl | exact ldM1 3 rfl (fun _ => rfl) (by assumption) rfl | exact ldM1 4 rfl (fun _ => rfl) (by assumption) rfl | exact ldM1 5 rfl (fun _ => rfl) (by assumption) rfl))) ?_  -- 1:6 cable.go:205 t11 load
  refine J.q rfl rfl rfl rfl (Q.len Try.underlying24 (.t 0 rfl)) ?_  -- 1:7 cable.go:205 t12 call
  refine J.q rfl rfl rfl rfl (Q.neq (.t 6 rfl) (.t 0 rfl)) ?_  -- 1:8 cable.go:205 t13 binOp
  refine J.end_ ?_
  refine C.keep (.cons 0 rfl (.cons 10 rfl .nil)) ?_
  refine C.cond (.t 0 rfl) (fun c0 => ?_) (fun c0 => ?_)  -- cond 0
  ·
    refine C.seq ?_
    refine C.reg ?_
    refine J.q rfl rfl rfl rfl (Q.assign .c) ?_  -- 2:0 cable.go:206 t4 assign
    refine J.end_ ?_
    refine C.keep (.cons 0 rfl .nil) ?_
    refine C.ret ?_
    refine X.thenRet ?_
    refine X.ret1 rfl 0 rfl (fun w hA => ?_)
    exact PostV.eq hA (by simp only [ampsV]; rw [if_pos (by simp at c0; omega)])
  ·
    have c0' : xs.length = c.nodes.length := by simp at c0; omega
    refine C.skip ?_
    refine X.go ?_
    refine C.keep (.cons 1 rfl .nil) ?_
    refine C.seq ?_
    refine C.seq ?_
    refine C.reg ?_
    refine J.q rfl rfl rfl rfl (Q.move (.t 0 rfl)) ?_  -- 3:0 cable.go:208 t14 move
    refine J.callV rfl rfl rfl rfl (run_static Try.call43 .f (.cons (.t 0 rfl) (.cons .f .nil)) rfl) (fun w hA => ContainsFunc44_calls w la lc xs (hA.ok (r := rowO la 1 enI xs) 1 rfl) (by omega)) ?_  -- 3:1 cable.go:208 t15 call
    refine J.end_ ?_
    refine C.keep (.cons 0 rfl .nil) ?_
    refine C.cond (.t 0 rfl) (fun c1 => ?_) (fun c1 => ?_)  -- cond 1
    ·
      refine C.seq ?_
      refine C.reg ?_
      refine J.q rfl rfl rfl rfl (Q.assign .c) ?_  -- 4:0 cable.go:209 t4 assign
      refine J.end_ ?_
      refine C.keep (.cons 0 rfl .nil) ?_
      refine C.ret ?_
      refine X.thenRet ?_
      refine X.ret1 rfl 0 rfl (fun w hA => ?_)
      exact PostV.eq hA (by simp [ampsV, c0', c1])
    ·
      refine C.skip ?_
      refine X.go ?_
      refine C.keep .nil ?_
      refine C.seq ?_
      refine C.reg ?_
      refine J.q rfl rfl rfl rfl (Q.assign .c) ?_  -- 5:0 cable.go:211 t4 assign
      refine J.end_ ?_
      refine C.ret ?_
      refine X.ret1 rfl 0 rfl (fun w hA => ?_)
      exact PostV.eq hA (by simp [ampsV, c0', c1])

end Go.Proofs
namespace Go.Proofs
open Go Go.J Go.RowKit Go.Cab
set_option maxRecDepth 4096
set_option linter.unusedSimpArgs false
set_option linter.unusedVariables false
theorem CheckShare_bad (w : World) (c : Cable) (a : Option Addr) (cc : Nat) (hr : (rowO a 8 Nd.enc c.nodes).ok w) (ga : Option Addr) (gc : Nat) (gs : List Int) (hg : (rowO ga 1 enI gs).ok w) (h : c.check ≠ 0) : Calls Try.prog 13 [.agg (c.cells a cc).toArray, .slice ga gs.length gc].toArray w (PostV (.tuple [.int .i64 0, .int .i64 c.check].toArray) w) := by
  refine Calls.enterM Try.func13 rfl rfl rfl ?_
  refine C.conseq (A' := St w no [] [rowO a 8 Nd.enc c.nodes, rowO ga 1 enI gs]) (fun _ e => by subst e; exact St.init _ _ (by simp [hr, hg])) ?_
  refine C.seq ?_
  refine C.reg ?_
  refine J.box rfl rfl rfl rfl (.t 0 rfl) rfl ?_; intro b2 hb2  -- 0:0 cable.go:244 t2 box
  refine J.q rfl rfl rfl rfl (Q.assign .c) ?_  -- 0:1 cable.go:244 t4 assign
  refine J.q rfl rfl rfl rfl (Q.assign .c) ?_  -- 0:2 cable.go:244 t5 assign
  refine J.end_ ?_
  refine C.keep (.cons 2 rfl (.cons 4 rfl .nil)) ?_
  refine C.seq ?_
  refine C.reg ?_
  refine J.q rfl rfl rfl rfl (Q.loadsV (.t 0 rfl) ⟨Try.isAgg26, Try.sizeOf26⟩ (by first | (first | exact ldT 3 0 rfl (by repeat constructor) | exact ldTΦ 3 0 rfl (by repeat constructor) | exact ldT 3 1 rfl (by repeat constructor) | exact ldTΦ 3 1 rfl (by repeat constructor) | exact ldT 3 2 rfl (by repeat constructor) | exact ldTΦ 3 2 rfl (by repeat constructor) | exact ldT 3 3 rfl (by repeat constructor) | exact ldTΦ 3 3 rfl (by repeat constructor) | exact ldT 3 4 rfl (by repeat constructor) | exact ldTΦ 3 4 rfl (by repeat constructor) | exact ldT 3 5 rfl (by repeat constructor) | exact ldTΦ 3 5 rfl (by repeat constructor) | exact ldT 3 6 rfl (by repeat constructor) | exact ldO 0 rfl (by assumption) | exact ldO 1 rfl (by assumption) | exact ldO 2 rfl (by assumption) | exact ldO 3 rfl (by assumption) | exact ldOT 3 0 rfl (by assumption) (by repeat constructor) | exact ldOT 3 1 rfl (by assumption) (by repeat constructor) | exact ldOT 3 2 rfl (by assumption) (by repeat constructor) | exact ldOT 3 3 rfl (by assumption) (by repeat constructor)) | (first | exact ldO1 0 rfl (by assumption) rfl | exact ldO1 1 rfl (by assumption) rfl | exact ldO1 2 rfl (by assumption) rfl | exact ldO1 3 rfl (by assumption) rfl | exact ldO1 4 rfl (by assumption) rfl | exact ldO1 5 rfl (by assumption) rfl | exact ldM1 0 rfl (fun _ => rfl) (by assumption) rfl | exact ldM1 1 rfl (fun _ => rfl) (by assumption) rfl | exact ldM1 2 rfl (fun _ => rfl) (by assumption) rfl | exact ldM1 3 rfl (fun _ => rfl) (by assumption) rfl | exact ldM1 4 rfl (fun _ => rfl) (by assumption) rfl | exact ldM1 5 rfl (fun _ => rfl) (by assumption) rfl)) rfl) ?_  -- 1:0 cable.go:245 t16 load
  refine J.callV rfl rfl rfl rfl (run_static Try.call23 .f (.cons (.t 0 rfl) .nil) rfl) (fun w hA => open_bad w c a cc (hA.ok (r := rowO a 8 Nd.enc c.nodes) 0 rfl) h) ?_  -- 1:1 cable.go:245 t17 call
  refine J.q rfl rfl rfl rfl (Q.move (.t 0 rfl)) ?_  -- 1:2 cable.go:245 t15 move
  refine J.q rfl rfl rfl rfl (Q.extract (.t 0 rfl) rfl) ?_  -- 1:3 cable.go:245 t18 extract
  refine J.q rfl rfl rfl rfl (Q.extract (.t 1 rfl) rfl) ?_  -- 1:4 cable.go:245 t19 extract
  refine J.q rfl rfl rfl rfl (Q.assign (.t 1 rfl)) ?_  -- 1:5 cable.go:245 t6 assign
  refine J.q rfl rfl rfl rfl (Q.assign (.t 1 rfl)) ?_  -- 1:6 cable.go:245 t7 assign
  refine J.end_ ?_
  refine C.keep (.cons 0 rfl (.cons 1 rfl (.cons 7 rfl (.cons 8 rfl .nil)))) ?_
  refine C.seq ?_
  refine C.seq ?_
  refine C.reg ?_
  refine J.q rfl rfl rfl rfl (Q.move (.t 0 rfl)) ?_  -- 2:0 cable.go:246 t20 move
  refine J.q rfl rfl rfl rfl (Q.neq (.t 0 rfl) .c) ?_  -- 2:1 cable.go:246 t21 binOp
  refine J.end_ ?_
  refine C.keep (.cons 0 rfl (.cons 2 rfl (.cons 3 rfl (.cons 4 rfl (.cons 5 rfl .nil))))) ?_
  refine C.cond (.t 0 rfl) (fun c0 => ?_) (fun c0 => ?_)  -- cond 0
  ·
    refine C.seq ?_
    refine C.reg ?_
    refine J.q rfl rfl rfl rfl (Q.move (.t 1 rfl)) ?_  -- 3:0 cable.go:247 t22 move
    refine J.q rfl rfl rfl rfl (Q.assign .c) ?_  -- 3:1 cable.go:247 t4 assign
    refine J.q rfl rfl rfl rfl (Q.assign (.t 1 rfl)) ?_  -- 3:2 cable.go:247 t5 assign
    refine J.end_ ?_
    refine C.keep (.cons 0 rfl (.cons 1 rfl .nil)) ?_
    refine C.ret ?_
    refine X.thenRet ?_
    refine X.leave ?_
    refine XL.ret2 rfl 1 0 rfl rfl (fun w hA => ?_)
    exact PostV.eq hA rfl
  ·
    exact absurd (of_decide_eq_false c0) (by simpa using h)

theorem CheckShare_ok (w : World) (c : Cable) (a : Option Addr) (cc : Nat) (hr : (rowO a 8 Nd.enc c.nodes).ok w) (ga : Option Addr) (gc : Nat) (gs : List Int) (hg : (rowO ga 1 enI gs).ok w) (hcc : c.nodes.length ≤ cc) (h : c.check = 0) : Calls Try.prog 13 [.agg (c.cells a cc).toArray, .slice ga gs.length gc].toArray w (PostV (.tuple [.int .i64 (checkShareV c gs).1, .int .i64 (checkShareV c gs).2].toArray) w) := by
  have hF := Fit.of h
  have hn0 := hF.pos
  have hn60 := hF.le
  obtain ⟨b, o, rfl⟩ := rowO.addr hr.1 (by omega)
  refine Calls.enterM Try.func13 rfl rfl rfl ?_
  refine C.conseq (A' := St w no [] [rowO (some ⟨b, o, none⟩) 8 Nd.enc c.nodes, rowO ga 1 enI gs]) (fun _ e => by subst e; exact St.init _ _ (by simp [hr, hg])) ?_
  refine C.seq ?_
  refine C.reg ?_
  refine J.box rfl rfl rfl rfl (.t 0 rfl) rfl ?_; intro b2 hb2  -- 0:0 cable.go:244 t2 box
  refine J.q rfl rfl rfl rfl (Q.assign .c) ?_  -- 0:1 cable.go:244 t4 assign
  refine J.q rfl rfl rfl rfl (Q.assign .c) ?_  -- 0:2 cable.go:244 t5 assign
  refine J.end_ ?_
  refine C.keep (.cons 2 rfl (.cons 4 rfl .nil)) ?_
  refine C.seq ?_
  refine C.reg ?_
  refine J.q rfl rfl rfl rfl (Q.loadsV (.t 0 rfl) ⟨Try.isAgg26, Try.sizeOf26⟩ (by first | (first | exact ldT 3 0 rfl (by repeat constructor) | exact ldTΦ 3 0 rfl (by repeat constructor) | exact ldT 3 1 rfl (by repeat constructor) | exact ldTΦ 3 1 rfl (by repeat constructor) | exact ldT 3 2 rfl (by repeat constructor) | exact ldTΦ 3 2 rfl (by repeat constructor) | exact ldT 3 3 rfl (by repeat constructor) | exact ldTΦ 3 3 rfl (by repeat constructor) | exact ldT 3 4 rfl (by repeat constructor) | exact ldTΦ 3 4 rfl (by repeat constructor) | exact ldT 3 5 rfl (by repeat constructor) | exact ldTΦ 3 5 rfl (by repeat constructor) | exact ldT 3 6 rfl (by repeat constructor) | exact ldO 0 rfl (by assumption) | exact ldO 1 rfl (by assumption) | exact ldO 2 rfl (by assumption) | exact ldO 3 rfl (by assumption) | exact ldOT 3 0 rfl (by assumption) (by repeat constructor) | exact ldOT 3 1 rfl (by assumption) (by repeat constructor) | exact ldOT 3 2 rfl (by assumption) (by repeat constructor) | exact ldOT 3 3 rfl (by assumption) (by repeat constructor)) | (first | exact ldO1 0 rfl (by assumption) rfl | exact ldO1 1 rfl (by assumption) rfl | exact ldO1 2 rfl (by assumption) rfl | exact ldO1 3 rfl (by assumption) rfl | exact ldO1 4 rfl (by assumption) rfl | exact ldO1 5 rfl (by assumption) rfl | exact ldM1 0 rfl (fun _ => rfl) (by assumption) rfl | exact ldM1 1 rfl (fun _ => rfl) (by assumption) rfl | exact ldM1 2 rfl (fun _ => rfl) (by assumption) rfl | exact ldM1 3 rfl (fun _ => rfl) (by assumption) rfl | exact ldM1 4 rfl (fun _ => rfl) (by assumption) rfl | exact ldM1 5 rfl (fun _ => rfl) (by assumption) rfl)) rfl) ?_  -- 1:0 cable.go:245 t16 load
  refine J.callS rfl rfl rfl rfl (run_static Try.call23 .f (.cons (.t 0 rfl) .nil) rfl) (fun w hA => open_ok w c _ cc (hA.ok (r := rowO _ 8 Nd.enc c.nodes) 0 rfl) hcc h) ?_  -- 1:1 cable.go:245 t17 call
  intro t ht
  refine openTree 0 rfl ?_
  refine J.q rfl rfl rfl rfl (Q.move (.t 0 rfl)) ?_  -- 1:2 cable.go:245 t15 move
  refine J.q rfl rfl rfl rfl (Q.extract (.t 0 rfl) rfl) ?_  -- 1:3 cable.go:245 t18 extract
  refine J.q rfl rfl rfl rfl (Q.extract (.t 1 rfl) rfl) ?_  -- 1:4 cable.go:245 t19 extract
  refine J.q rfl rfl rfl rfl (Q.assign (.t 1 rfl)) ?_  -- 1:5 cable.go:245 t6 assign
  refine J.q rfl rfl rfl rfl (Q.assign (.t 1 rfl)) ?_  -- 1:6 cable.go:245 t7 assign
  refine J.end_ ?_
  refine C.keep (.cons 0 rfl (.cons 1 rfl (.cons 7 rfl (.cons 8 rfl .nil)))) ?_
  refine C.seq ?_
  refine C.seq ?_
  refine C.reg ?_
  refine J.q rfl rfl rfl rfl (Q.move (.t 0 rfl)) ?_  -- 2:0 cable.go:246 t20 move
  refine J.q rfl rfl rfl rfl (Q.neq (.t 0 rfl) .c) ?_  -- 2:1 cable.go:246 t21 binOp
  refine J.end_ ?_
  refine C.keep (.cons 0 rfl (.cons 2 rfl (.cons 3 rfl (.cons 4 rfl (.cons 5 rfl .nil))))) ?_
  refine C.cond (.t 0 rfl) (fun c0 => ?_) (fun c0 => ?_)  -- cond 0
  ·
    exact absurd h (by simp at c0)
  ·
    refine C.skip ?_
    refine X.go ?_
    refine C.keep (.cons 2 rfl (.cons 3 rfl (.cons 4 rfl .nil))) ?_
    refine C.seq ?_
    refine C.seq ?_
    refine C.reg ?_
    refine J.q rfl rfl rfl rfl (Q.move (.t 0 rfl)) ?_  -- 4:0 cable.go:249 t23 move
    refine J.q rfl rfl rfl rfl (Q.move (.t 3 rfl)) ?_  -- 4:1 cable.go:249 t24 move
    refine J.callV rfl rfl rfl rfl (run_static Try.call24 .f (.cons (.t 1 rfl) (.cons (.t 0 rfl) .nil)) rfl) (fun w hA => checkAmps_calls w c _ cc t.p t.q ga gc gs hn60 (hA.ok (r := bx t.p 82 (c.tcells (some ⟨b, o, none⟩) cc t.q)) 1 rfl) (hA.ok (r := rowO ga 1 enI gs) 4 rfl)) ?_  -- 4:2 cable.go:249 t25 call
    refine J.q rfl rfl rfl rfl (Q.assign (.t 0 rfl)) ?_  -- 4:3 cable.go:249 t8 assign
    refine J.end_ ?_
    refine C.keep (.cons 0 rfl (.cons 4 rfl (.cons 5 rfl (.cons 6 rfl .nil)))) ?_
    refine C.seq ?_
    refine C.reg ?_
    refine J.q rfl rfl rfl rfl (Q.move (.t 0 rfl)) ?_  -- 5:0 cable.go:249 t26 move
    refine J.q rfl rfl rfl rfl (Q.neq (.t 0 rfl) .c) ?_  -- 5:1 cable.go:249 t27 binOp
    refine J.end_ ?_
    refine C.keep (.cons 0 rfl (.cons 2 rfl (.cons 3 rfl (.cons 4 rfl (.cons 5 rfl .nil))))) ?_
    refine C.cond (.t 0 rfl) (fun c1 => ?_) (fun c1 => ?_)  -- cond 1
    ·
      refine C.seq ?_
      refine C.reg ?_
      refine J.q rfl rfl rfl rfl (Q.move (.t 1 rfl)) ?_  -- 6:0 cable.go:250 t28 move
      refine J.q rfl rfl rfl rfl (Q.assign .c) ?_  -- 6:1 cable.go:250 t4 assign
      refine J.q rfl rfl rfl rfl (Q.assign (.t 1 rfl)) ?_  -- 6:2 cable.go:250 t5 assign
      refine J.end_ ?_
      refine C.keep (.cons 0 rfl (.cons 1 rfl .nil)) ?_
      refine C.ret ?_
      refine X.thenRet ?_
      refine X.leave ?_
      refine XL.ret2 rfl 1 0 rfl rfl (fun w hA => ?_)
      exact PostV.eq hA (by simp [checkShareV, h]; simp at c1; simp [c1])
    ·
      have ha0 : ampsV c.nodes.length gs = 0 := by simpa using c1
      obtain ⟨hgl, hgb⟩ := amps_ok ha0
      refine C.skip ?_
      refine X.go ?_
      refine C.keep (.cons 2 rfl (.cons 3 rfl (.cons 4 rfl .nil))) ?_
      refine C.seq ?_
      refine C.reg ?_
      refine J.q rfl rfl rfl rfl (Q.move (.t 2 rfl)) ?_  -- 7:0 cable.go:252 t29 move
      refine J.q rfl rfl rfl rfl (Q.len Try.underlying32 (.t 0 rfl)) ?_  -- 7:1 cable.go:252 t30 call
      refine J.mkS rfl rfl rfl rfl Try.underlying32 inf2 (by simp) (.t 0 rfl) (.t 0 rfl) (by omega) (by omega) ?_; intro b31 hb31  -- 7:2 cable.go:252 t31 makeSlice
      refine J.alloc rfl rfl rfl rfl Try.zeroValue32 rfl ?_; intro b9 hb9  -- 7:3 cable.go:252 t9 alloc
      refine J.s rfl rfl rfl (S.storeP (.t 0 rfl) (.t 1 rfl) Try.sizeOf32 rfl rfl (by (first | exact Nd.enc_one _ | (first | exact Span.enc_one _ | ((intro u hu; simp at hu; first | done | ((repeat' (rcases hu with rfl | hu)) <;> (try subst hu) <;> rfl)))))) (by (repeat (first | exact Upd.here | apply Upd.there))) (by (repeat constructor); done)) ?_  -- 7:4 cable.go:252 tNone store
      refine J.end_ ?_
      refine C.keep (.cons 0 rfl (.cons 4 rfl (.cons 5 rfl (.cons 6 rfl .nil)))) ?_
      refine C.seq ?_
      refine C.seq ?_
      refine C.reg ?_
      refine J.q rfl rfl rfl rfl (Q.move (.t 3 rfl)) ?_  -- 8:0 cable.go:253 t32 move
      refine J.q rfl rfl rfl rfl (Q.len Try.underlying32 (.t 0 rfl)) ?_  -- 8:1 cable.go:253 t33 call
      refine J.q rfl rfl rfl rfl (Q.move .c) ?_  -- 8:2 cable.go:253 t34 move
      refine J.end_ ?_
      refine C.keep (.cons 0 rfl (.cons 1 rfl (.cons 2 rfl (.cons 3 rfl (.cons 4 rfl (.cons 5 rfl .nil)))))) ?_
      refine C.block ?_
      refine C.loopD_1 (fun g => .int .i64 (g.1.1 : Int)) (G := { g : Nat × List Int × List Nat // g.1 ≤ gs.length ∧ g.2.1 = sumsUpto c gs g.1 ∧ g.2.1.length = gs.length ∧ ∀ z ∈ g.2.1, 0 ≤ z ∧ z ≤ g.1 * 3932160 }) (fun g => g.1.2.2.map mk) (fun g => St w no ([bx b9 32 [.slice (some ⟨b31, 0, none⟩) gs.length gs.length], bx b31 2 (g.1.2.1.flatMap enI), bx b2 26 (c.cells (some ⟨b, o, none⟩) cc)] ++ g.1.2.2.map om) [needR c (some ⟨b, o, none⟩) cc t.p t.q, bx t.p 82 (c.tcells (some ⟨b, o, none⟩) cc t.q), bigR (t.res c (some ⟨b, o, none⟩) cc), rowO (some ⟨b, o, none⟩) 8 Nd.enc c.nodes, rowO ga 1 enI gs]) (fun g => gs.length - g.1.1) (⟨(0, List.replicate gs.length 0, []), by simp, rfl, by simp, by intro z hz; have := (List.mem_replicate.1 hz).2; subst this; simp⟩) rfl (by (first | rfl | (simp; done))) ?_ ?_
      ·
        exact fun _ h => by rw [← flat_repI]; exact h
      ·
        rintro ⟨⟨i, s, ms⟩, hi, hs, hl, hsb⟩
        dsimp only
        dsimp only at hi hs hl hsb
        refine C.seq ?_
        refine C.reg ?_
        refine J.q rfl rfl rfl rfl (Q.lss (.t 0 rfl) (.t 1 rfl)) ?_  -- 9:0 cable.go:253 t35 binOp
        refine J.end_ ?_
        refine C.seq ?_
        refine C.cond (.t 0 rfl) (fun c2 => ?_) (fun c2 => ?_)  -- cond 2
        ·
          simp only [decide_eq_true_eq, decide_eq_false_iff_not, Bool.and_eq_true, Bool.or_eq_true, Bool.and_eq_false_iff, Bool.or_eq_false_iff, Bool.not_eq_true', Bool.not_eq_false', beq_iff_eq, bne_iff_ne, Int.not_lt, Int.not_le, Decidable.not_not, ne_eq] at c2
          have hlt : i < gs.length := by omega
          obtain ⟨x, hx⟩ := get_lt hlt
          obtain ⟨bg, og, rfl⟩ := rowO.addr hg.1 (by omega)
          have hxb := hgb x (List.mem_of_getElem? hx)
          refine C.skip ?_
          refine X.go ?_
          refine C.keep (.cons 1 rfl (.cons 2 rfl (.cons 3 rfl (.cons 4 rfl (.cons 5 rfl (.cons 6 rfl .nil)))))) ?_
          refine C.seq ?_
          refine C.block ?_
          refine C.seq ?_
          refine C.reg ?_
          refine J.q rfl rfl rfl rfl (Q.move (.t 0 rfl)) ?_  -- 10:0 cable.go:253 t36 move
          refine J.q rfl rfl rfl rfl (Q.indexAddr Try.underlying32 Try.sizeOf2 (.t 3 rfl) (.t 1 rfl) (by omega)) ?_  -- 10:1 cable.go:253 t37 indexAddr
          refine J.q rfl rfl rfl rfl (Q.load (.t 0 rfl) Try.isAgg2 (by exact ldO1 4 rfl hx rfl)) ?_  -- 10:2 cable.go:253 t38 load
          refine J.alloc rfl rfl rfl rfl Try.zeroValue2 rfl ?_; intro b11 hb11  -- 10:3 cable.go:253 t11 alloc
          refine J.q rfl rfl rfl rfl (Q.assign (.t 3 rfl)) ?_  -- 10:4 cable.go:253 t10 assign
          refine J.s rfl rfl rfl (S.storeP (.t 1 rfl) (.t 2 rfl) Try.sizeOf2 rfl rfl (by (first | exact Nd.enc_one _ | (first | exact Span.enc_one _ | ((intro u hu; simp at hu; first | done | ((repeat' (rcases hu with rfl | hu)) <;> (try subst hu) <;> rfl)))))) (by (repeat (first | exact Upd.here | apply Upd.there))) (by (repeat constructor); done)) ?_  -- 10:5 cable.go:253 tNone store
          refine J.end_ ?_
          refine C.keep (.cons 0 rfl (.cons 1 rfl (.cons 5 rfl (.cons 6 rfl (.cons 7 rfl (.cons 8 rfl (.cons 9 rfl (.cons 10 rfl .nil)))))))) ?_
          refine C.seq ?_
          refine C.reg ?_
          refine J.q rfl rfl rfl rfl (Q.move (.t 6 rfl)) ?_  -- 11:0 cable.go:254 t39 move
          refine J.q rfl rfl rfl rfl (Q.move (.t 1 rfl)) ?_  -- 11:1 cable.go:254 t40 move
          refine J.callNF rfl rfl rfl rfl (run_static Try.call27 .f (.cons (.t 1 rfl) (.cons (.t 0 rfl) .nil)) rfl) (fun w hA => up_calls w t.p i) ?_  -- 11:2 cable.go:254 t41 call
          intro x2 _ hnew
          refine J.end_ ?_
          refine C.keep (.cons 0 rfl (.cons 4 rfl (.cons 5 rfl (.cons 6 rfl (.cons 7 rfl (.cons 8 rfl (.cons 9 rfl (.cons 10 rfl .nil)))))))) ?_
          refine C.block ?_
          refine C.range (ps := [42]) (()) (.t 0 rfl) Try.call49 (up_iter c b o cc t.p t.q x2.1 x2.2 i hF (by omega)) (.here) (nd := 0) (Mk := fun j (_ : Unit) => [bx b11 2 [I64 x], bx b9 32 [.slice (some ⟨b31, 0, none⟩) gs.length gs.length], bx b31 2 ((addAt s ((path c i).take j) x).flatMap enI), bx b2 26 (c.cells (some ⟨b, o, none⟩) cc)] ++ ms.map om) rfl rfl (fun j v hv => by obtain ⟨y, _, rfl⟩ := pathV_nth hv; rfl) (G := Empty) (fun e => e.elim) (fun e => e.elim) ?_ ?_ ?_
          ·
            intro l rD rc w' j γ v hrc hst hv
            obtain ⟨y, hy, rfl⟩ := pathV_nth hv
            obtain ⟨hy0, hyi⟩ := path_mem hF (List.mem_of_getElem? hy)
            have hjl : (path c i).length ≤ 60 := path_length hF (by omega)
            have hb2 := addAt_bound (s := s) (ps := (path c i).take j) hsb hxb
            have hl2 : (addAt s ((path c i).take j) x).length = gs.length := by rw [addAt_length]; exact hl
            obtain ⟨z, hz⟩ := get_lt (xs := addAt s ((path c i).take j) x) (i := y.toNat) (by omega)
            have hzb := hb2 z (List.mem_of_getElem? hz)
            rw [List.length_take] at hzb
            refine C.rnd ?_
            refine C.reg ?_
            refine J.q rfl rfl rfl rfl (Q.assign (.t 0 rfl)) ?_  -- 12:0 cable.go:254 t12 assign
            refine J.done ?_
            refine X.body hrc ?_
            refine C.block ?_
            refine C.drawS ?_
            refine JC.q 0 rfl rfl rfl rfl (Q.load (.t 7 rfl) Try.isAgg32 (by first | (first | exact ldT 1 0 rfl (by repeat constructor) | exact ldTΦ 1 0 rfl (by repeat constructor) | exact ldT 1 1 rfl (by repeat constructor) | exact ldTΦ 1 1 rfl (by repeat constructor) | exact ldT 1 2 rfl (by repeat constructor) | exact ldTΦ 1 2 rfl (by repeat constructor) | exact ldT 1 3 rfl (by repeat constructor) | exact ldTΦ 1 3 rfl (by repeat constructor) | exact ldT 1 4 rfl (by repeat constructor) | exact ldTΦ 1 4 rfl (by repeat constructor) | exact ldT 1 5 rfl (by repeat constructor) | exact ldTΦ 1 5 rfl (by repeat constructor) | exact ldT 1 6 rfl (by repeat constructor) | exact ldO 0 rfl (by assumption) | exact ldO 1 rfl (by assumption) | exact ldO 2 rfl (by assumption) | exact ldO 3 rfl (by assumption) | exact ldOT 1 0 rfl (by assumption) (by repeat constructor) | exact ldOT 1 1 rfl (by assumption) (by repeat constructor) | exact ldOT 1 2 rfl (by assumption) (by repeat constructor) | exact ldOT 1 3 rfl (by assumption) (by repeat constructor)) | (first | exact ldO1 0 rfl (by assumption) rfl | exact ldO1 1 rfl (by assumption) rfl | exact ldO1 2 rfl (by assumption) rfl | exact ldO1 3 rfl (by assumption) rfl | exact ldO1 4 rfl (by assumption) rfl | exact ldO1 5 rfl (by assumption) rfl | exact ldM1 0 rfl (fun _ => rfl) (by assumption) rfl | exact ldM1 1 rfl (fun _ => rfl) (by assumption) rfl | exact ldM1 2 rfl (fun _ => rfl) (by assumption) rfl | exact ldM1 3 rfl (fun _ => rfl) (by assumption) rfl | exact ldM1 4 rfl (fun _ => rfl) (by assumption) rfl | exact ldM1 5 rfl (fun _ => rfl) (by assumption) rfl))) ?_  -- 13:0 cable.go:255 t43 load
            refine JC.q 1 rfl rfl rfl rfl (Q.move (.t 1 rfl)) ?_  -- 13:1 cable.go:255 t44 move
            refine JC.q 2 rfl rfl rfl rfl (Q.indexAddr Try.underlying32 Try.sizeOf2 (.t 1 rfl) (.t 0 rfl) (by omega)) ?_  -- 13:2 cable.go:255 t45 indexAddr
            refine JC.q 3 rfl rfl rfl rfl (Q.load (.t 0 rfl) Try.isAgg2 (by exact ldM1 4 rfl (fun _ => rfl) hz rfl)) ?_  -- 13:3 cable.go:255 t46 load
            refine JC.q 4 rfl rfl rfl rfl (Q.load (.t 7 rfl) Try.isAgg2 (by first | (first | exact ldT 1 0 rfl (by repeat constructor) | exact ldTΦ 1 0 rfl (by repeat constructor) | exact ldT 1 1 rfl (by repeat constructor) | exact ldTΦ 1 1 rfl (by repeat constructor) | exact ldT 1 2 rfl (by repeat constructor) | exact ldTΦ 1 2 rfl (by repeat constructor) | exact ldT 1 3 rfl (by repeat constructor) | exact ldTΦ 1 3 rfl (by repeat constructor) | exact ldT 1 4 rfl (by repeat constructor) | exact ldTΦ 1 4 rfl (by repeat constructor) | exact ldT 1 5 rfl (by repeat constructor) | exact ldTΦ 1 5 rfl (by repeat constructor) | exact ldT 1 6 rfl (by repeat constructor) | exact ldO 0 rfl (by assumption) | exact ldO 1 rfl (by assumption) | exact ldO 2 rfl (by assumption) | exact ldO 3 rfl (by assumption) | exact ldOT 1 0 rfl (by assumption) (by repeat constructor) | exact ldOT 1 1 rfl (by assumption) (by repeat constructor) | exact ldOT 1 2 rfl (by assumption) (by repeat constructor) | exact ldOT 1 3 rfl (by assumption) (by repeat constructor)) | (first | exact ldO1 0 rfl (by assumption) rfl | exact ldO1 1 rfl (by assumption) rfl | exact ldO1 2 rfl (by assumption) rfl | exact ldO1 3 rfl (by assumption) rfl | exact ldO1 4 rfl (by assumption) rfl | exact ldO1 5 rfl (by assumption) rfl | exact ldM1 0 rfl (fun _ => rfl) (by assumption) rfl | exact ldM1 1 rfl (fun _ => rfl) (by assumption) rfl | exact ldM1 2 rfl (fun _ => rfl) (by assumption) rfl | exact ldM1 3 rfl (fun _ => rfl) (by assumption) rfl | exact ldM1 4 rfl (fun _ => rfl) (by assumption) rfl | exact ldM1 5 rfl (fun _ => rfl) (by assumption) rfl))) ?_  -- 13:4 cable.go:255 t47 load
            refine JC.q 5 rfl rfl rfl rfl (Q.add (.t 1 rfl) (.t 0 rfl) (by omega)) ?_  -- 13:5 cable.go:255 t48 binOp
            refine JC.q 6 rfl rfl rfl rfl (Q.indexAddr Try.underlying32 Try.sizeOf2 (.t 5 rfl) (.t 4 rfl) (by omega)) ?_  -- 13:6 cable.go:255 t49 indexAddr
            refine JC.tail [0, 0, 3, 7, 0, 31, 63, 127] 1 mixed (by kernel_rfl) (by kernel_rfl) (by (first | (exact fun _ h => h) | (exact fun _ h => h.dropM) | (exact fun _ h => h.dropM.dropM) | (exact fun _ h => h.sub (by (repeat (first | exact List.Sublist.refl _ | exact List.nil_sublist _ | apply List.Sublist.cons_cons | apply List.Sublist.cons)); done)) | (exact fun _ h => h.subΦ (fun i hi => List.mem_cons_of_mem _ hi)))) ?_
            refine JT.pick [7] (by kernel_rfl) (.cons (DStep.of rfl ?_) .nil)
            refine J.s rfl rfl rfl (S.storeR (enc := enI) (e := z + x) (.t 0 rfl) (.t 1 rfl) Try.sizeOf2 (fun _ => rfl) rfl rfl (by (first | exact Nd.enc_one _ | (first | exact Span.enc_one _ | ((intro u hu; simp at hu; first | done | ((repeat' (rcases hu with rfl | hu)) <;> (try subst hu) <;> rfl)))))) (by (repeat (first | exact Upd.here | apply Upd.there))) (by omega)) ?_
            refine J.finF rfl rfl ?_
            refine JT.end_ ?_
            refine X.inNormal ?_
            refine (X.next_ (()) hrc hst).conv ?_
            exact fun _ h => by rw [addAt_take hy hz]; exact h
          ·
            intro rD γ hrD
            refine X.inNormal ?_
            refine X.inNormal ?_
            refine X.go ?_
            refine C.keep (.cons 2 rfl (.cons 3 rfl (.cons 4 rfl (.cons 5 rfl (.cons 6 rfl (.cons 7 rfl .nil)))))) ?_
            refine C.reg ?_
            refine J.q rfl rfl rfl rfl (Q.add (.t 0 rfl) .c (by omega)) ?_  -- 14:0 cable.go:253 t50 binOp
            refine J.keep (.cons 0 rfl (.cons 2 rfl (.cons 3 rfl (.cons 4 rfl (.cons 5 rfl (.cons 6 rfl .nil)))))) ?_
            refine J.q rfl rfl rfl rfl (Q.move (.t 0 rfl)) ?_  -- 14:1 cable.go:253 t34 move
            refine J.done ?_
            refine X.nxD (⟨(i + 1, addAt s (path c i) x, rD :: ms), by simp only; omega, by rw [hs, sumsUpto, show gs.getD i 0 = x by simp [List.getD, hx]], by rw [addAt_length]; exact hl, sums_next hF hn60 hsb hxb (by omega)⟩) rfl (.cons 0 (by (first | rfl | (simp; done))) (.cons 2 (by (first | rfl | (simp; done))) (.cons 3 (by (first | rfl | (simp; done))) (.cons 4 (by (first | rfl | (simp; done))) (.cons 5 (by (first | rfl | (simp; done))) (.cons 6 (by (first | rfl | (simp; done))) .nil)))))) ?_ ?_
            ·
              exact fun _ h => markIn (l := [_, _, _]) (by rw [pathV_len, List.take_length] at h; exact h)
            ·
              simp; omega
          ·
            intro rD e; exact e.elim
        ·
          simp only [decide_eq_true_eq, decide_eq_false_iff_not, Bool.and_eq_true, Bool.or_eq_true, Bool.and_eq_false_iff, Bool.or_eq_false_iff, Bool.not_eq_true', Bool.not_eq_false', beq_iff_eq, bne_iff_ne, Int.not_lt, Int.not_le, Decidable.not_not, ne_eq] at c2
          have hsn : s = sumsUpto c gs c.nodes.length := by rw [hs]; congr 1; omega
          refine C.exit ?_
          refine X.thenExit ?_
          refine X.thenExit ?_
          refine X.inHit ?_
          refine X.go ?_
          refine C.keep (.cons 4 rfl (.cons 6 rfl .nil)) ?_
          refine C.seq ?_
          refine C.seq ?_
          refine C.reg ?_
          refine J.q rfl rfl rfl rfl (Q.load (.t 0 rfl) Try.isAgg32 (by first | (first | exact ldT 1 0 rfl (by repeat constructor) | exact ldTΦ 1 0 rfl (by repeat constructor) | exact ldT 1 1 rfl (by repeat constructor) | exact ldTΦ 1 1 rfl (by repeat constructor) | exact ldT 1 2 rfl (by repeat constructor) | exact ldTΦ 1 2 rfl (by repeat constructor) | exact ldT 1 3 rfl (by repeat constructor) | exact ldTΦ 1 3 rfl (by repeat constructor) | exact ldT 1 4 rfl (by repeat constructor) | exact ldTΦ 1 4 rfl (by repeat constructor) | exact ldT 1 5 rfl (by repeat constructor) | exact ldTΦ 1 5 rfl (by repeat constructor) | exact ldT 1 6 rfl (by repeat constructor) | exact ldO 0 rfl (by assumption) | exact ldO 1 rfl (by assumption) | exact ldO 2 rfl (by assumption) | exact ldO 3 rfl (by assumption) | exact ldOT 1 0 rfl (by assumption) (by repeat constructor) | exact ldOT 1 1 rfl (by assumption) (by repeat constructor) | exact ldOT 1 2 rfl (by assumption) (by repeat constructor) | exact ldOT 1 3 rfl (by assumption) (by repeat constructor)) | (first | exact ldO1 0 rfl (by assumption) rfl | exact ldO1 1 rfl (by assumption) rfl | exact ldO1 2 rfl (by assumption) rfl | exact ldO1 3 rfl (by assumption) rfl | exact ldO1 4 rfl (by assumption) rfl | exact ldO1 5 rfl (by assumption) rfl | exact ldM1 0 rfl (fun _ => rfl) (by assumption) rfl | exact ldM1 1 rfl (fun _ => rfl) (by assumption) rfl | exact ldM1 2 rfl (fun _ => rfl) (by assumption) rfl | exact ldM1 3 rfl (fun _ => rfl) (by assumption) rfl | exact ldM1 4 rfl (fun _ => rfl) (by assumption) rfl | exact ldM1 5 rfl (fun _ => rfl) (by assumption) rfl))) ?_  -- 15:0 cable.go:258 t51 load
          refine J.q rfl rfl rfl rfl (Q.len Try.underlying32 (.t 0 rfl)) ?_  -- 15:1 cable.go:258 t52 call
          refine J.q rfl rfl rfl rfl (Q.move .c) ?_  -- 15:2 cable.go:258 t53 move
          refine J.end_ ?_
          refine C.keep (.cons 0 rfl (.cons 1 rfl (.cons 2 rfl (.cons 4 rfl .nil)))) ?_
          refine C.block ?_
          refine C.loop_1 (fun k => .int .i64 (k.1 : Int)) (G := { k : Nat // k ≤ gs.length ∧ ∀ s ∈ ((sumsUpto c gs c.nodes.length).zip c.nodes).take k, decide (s.2.limit < s.1) = false }) (fun k => St w no ([bx b9 32 [.slice (some ⟨b31, 0, none⟩) gs.length gs.length], bx b31 2 ((sumsUpto c gs c.nodes.length).flatMap enI), bx b2 26 (c.cells (some ⟨b, o, none⟩) cc)] ++ ms.map om) [needR c (some ⟨b, o, none⟩) cc t.p t.q, bx t.p 82 (c.tcells (some ⟨b, o, none⟩) cc t.q), bigR (t.res c (some ⟨b, o, none⟩) cc), rowO (some ⟨b, o, none⟩) 8 Nd.enc c.nodes, rowO ga 1 enI gs]) (fun k => gs.length - k.1) (⟨0, by simp⟩) (by (first | rfl | (simp; done))) ?_ ?_
          ·
            exact fun _ h => by rw [← hsn]; exact h
          ·
            rintro ⟨k, hk, hko⟩
            dsimp only
            have hsl := sumsUpto_length c gs c.nodes.length
            have hzx : ∀ y n2, (sumsUpto c gs c.nodes.length)[k]? = some y → c.nodes[k]? = some n2 → ((sumsUpto c gs c.nodes.length).zip c.nodes)[k]? = some (y, n2) := fun y n2 h1 h2 => by rw [List.getElem?_zip_eq_some]; exact ⟨h1, h2⟩
            refine C.seq ?_
            refine C.reg ?_
            refine J.q rfl rfl rfl rfl (Q.lss (.t 0 rfl) (.t 1 rfl)) ?_  -- 16:0 cable.go:258 t54 binOp
            refine J.end_ ?_
            refine C.seq ?_
            refine C.cond (.t 0 rfl) (fun c3 => ?_) (fun c3 => ?_)  -- cond 3
            ·
              simp only [decide_eq_true_eq, decide_eq_false_iff_not, Bool.and_eq_true, Bool.or_eq_true, Bool.and_eq_false_iff, Bool.or_eq_false_iff, Bool.not_eq_true', Bool.not_eq_false', beq_iff_eq, bne_iff_ne, Int.not_lt, Int.not_le, Decidable.not_not, ne_eq] at c3
              have hlt : k < gs.length := by omega
              obtain ⟨y, hy⟩ := get_lt (xs := sumsUpto c gs c.nodes.length) (i := k) (by omega)
              obtain ⟨n2, hx2⟩ := get_lt (xs := c.nodes) (i := k) (by omega)
              refine C.skip ?_
              refine X.go ?_
              refine C.keep (.cons 1 rfl (.cons 2 rfl (.cons 3 rfl (.cons 4 rfl .nil)))) ?_
              refine C.seq ?_
              refine C.block ?_
              refine C.seq ?_
              refine C.reg ?_
              refine J.q rfl rfl rfl rfl (Q.move (.t 0 rfl)) ?_  -- 17:0 cable.go:258 t55 move
              refine J.q rfl rfl rfl rfl (Q.indexAddr Try.underlying32 Try.sizeOf2 (.t 3 rfl) (.t 1 rfl) (by omega)) ?_  -- 17:1 cable.go:258 t56 indexAddr
              refine J.q rfl rfl rfl rfl (Q.load (.t 0 rfl) Try.isAgg2 (by exact ldM1 1 rfl (fun _ => rfl) hy rfl)) ?_  -- 17:2 cable.go:258 t57 load
              refine J.q rfl rfl rfl rfl (Q.assign (.t 2 rfl)) ?_  -- 17:3 cable.go:258 t13 assign
              refine J.q rfl rfl rfl rfl (Q.assign (.t 1 rfl)) ?_  -- 17:4 cable.go:258 t14 assign
              refine J.end_ ?_
              refine C.keep (.cons 0 rfl (.cons 1 rfl (.cons 5 rfl (.cons 6 rfl (.cons 7 rfl (.cons 8 rfl .nil)))))) ?_
              refine C.seq ?_
              refine C.reg ?_
              refine J.q rfl rfl rfl rfl (Q.move (.t 0 rfl)) ?_  -- 18:0 cable.go:259 t58 move
              refine J.q rfl rfl rfl rfl (Q.fa0 2 Try.underlying26 rfl Try.sizeOf24 rfl rfl (.t 6 rfl)) ?_  -- 18:1 cable.go:259 t59 fieldAddr
              refine J.q rfl rfl rfl rfl (Q.load (.t 0 rfl) Try.isAgg24 (by first | (first | exact ldT 1 0 rfl (by repeat constructor) | exact ldTΦ 1 0 rfl (by repeat constructor) | exact ldT 1 1 rfl (by repeat constructor) | exact ldTΦ 1 1 rfl (by repeat constructor) | exact ldT 1 2 rfl (by repeat constructor) | exact ldTΦ 1 2 rfl (by repeat constructor) | exact ldT 1 3 rfl (by repeat constructor) | exact ldTΦ 1 3 rfl (by repeat constructor) | exact ldT 1 4 rfl (by repeat constructor) | exact ldTΦ 1 4 rfl (by repeat constructor) | exact ldT 1 5 rfl (by repeat constructor) | exact ldTΦ 1 5 rfl (by repeat constructor) | exact ldT 1 6 rfl (by repeat constructor) | exact ldO 0 rfl (by assumption) | exact ldO 1 rfl (by assumption) | exact ldO 2 rfl (by assumption) | exact ldO 3 rfl (by assumption) | exact ldOT 1 0 rfl (by assumption) (by repeat constructor) | exact ldOT 1 1 rfl (by assumption) (by repeat constructor) | exact ldOT 1 2 rfl (by assumption) (by repeat constructor) | exact ldOT 1 3 rfl (by assumption) (by repeat constructor)) | (first | exact ldO1 0 rfl (by assumption) rfl | exact ldO1 1 rfl (by assumption) rfl | exact ldO1 2 rfl (by assumption) rfl | exact ldO1 3 rfl (by assumption) rfl | exact ldO1 4 rfl (by assumption) rfl | exact ldO1 5 rfl (by assumption) rfl | exact ldM1 0 rfl (fun _ => rfl) (by assumption) rfl | exact ldM1 1 rfl (fun _ => rfl) (by assumption) rfl | exact ldM1 2 rfl (fun _ => rfl) (by assumption) rfl | exact ldM1 3 rfl (fun _ => rfl) (by assumption) rfl | exact ldM1 4 rfl (fun _ => rfl) (by assumption) rfl | exact ldM1 5 rfl (fun _ => rfl) (by assumption) rfl))) ?_  -- 18:2 cable.go:259 t60 load
              refine J.q rfl rfl rfl rfl (Q.move (.t 4 rfl)) ?_  -- 18:3 cable.go:259 t61 move
              refine J.q rfl rfl rfl rfl (Q.indexAddr Try.underlying24 Try.sizeOf40 (.t 1 rfl) (.t 0 rfl) (by omega)) ?_  -- 18:4 cable.go:259 t62 indexAddr
              refine J.q rfl rfl rfl rfl (Q.fa 3 Try.underlying40 rfl Try.sizeOf2 rfl rfl (.t 0 rfl)) ?_  -- 18:5 cable.go:259 t63 fieldAddr
              refine J.q rfl rfl rfl rfl (Q.load (.t 0 rfl) Try.isAgg2 (by exact ldOT 1 3 rfl hx2 (by (repeat constructor); done))) ?_  -- 18:6 cable.go:259 t64 load
              refine J.q rfl rfl rfl rfl (Q.gtr (.t 6 rfl) (.t 0 rfl)) ?_  -- 18:7 cable.go:259 t65 binOp
              refine J.end_ ?_
              refine C.keep (.cons 0 rfl (.cons 9 rfl (.cons 10 rfl (.cons 11 rfl (.cons 12 rfl (.cons 13 rfl .nil)))))) ?_
              refine C.cond (.t 0 rfl) (fun c4 => ?_) (fun c4 => ?_)  -- cond 4
              ·
                refine C.seq ?_
                refine C.reg ?_
                refine J.q rfl rfl rfl rfl (Q.move (.t 1 rfl)) ?_  -- 19:0 cable.go:260 t66 move
                refine J.q rfl rfl rfl rfl (Q.assign (.t 0 rfl)) ?_  -- 19:1 cable.go:260 t4 assign
                refine J.q rfl rfl rfl rfl (Q.assign .c) ?_  -- 19:2 cable.go:260 t5 assign
                refine J.end_ ?_
                refine C.keep (.cons 0 rfl (.cons 1 rfl .nil)) ?_
                refine C.ret ?_
                refine X.inRet ?_
                refine X.thenRet ?_
                refine X.thenRet ?_
                refine X.inRet ?_
                refine X.thenRet ?_
                refine X.leave ?_
                refine XL.marks ?_
                refine XL.ret2 rfl 1 0 rfl rfl (fun w hA => ?_)
                exact PostV.eq hA (by rw [share_over ha0 h (hzx y n2 hy hx2) hko c4])
              ·
                refine C.skip ?_
                refine X.inNormal ?_
                refine X.go ?_
                refine C.keep (.cons 2 rfl (.cons 3 rfl (.cons 4 rfl (.cons 5 rfl .nil)))) ?_
                refine C.reg ?_
                refine J.q rfl rfl rfl rfl (Q.add (.t 0 rfl) .c (by omega)) ?_  -- 20:0 cable.go:258 t67 binOp
                refine J.keep (.cons 0 rfl (.cons 2 rfl (.cons 3 rfl (.cons 4 rfl .nil)))) ?_
                refine J.q rfl rfl rfl rfl (Q.move (.t 0 rfl)) ?_  -- 20:1 cable.go:258 t53 move
                refine J.done ?_
                refine X.nx (⟨k + 1, by omega, take_succ_all (hzx y n2 hy hx2) hko c4⟩) (.cons 0 (by (first | rfl | (simp; done))) (.cons 2 (by (first | rfl | (simp; done))) (.cons 3 (by (first | rfl | (simp; done))) (.cons 4 (by (first | rfl | (simp; done))) .nil)))) ?_ ?_
                ·
                  (exact fun _ h => h)
                ·
                  simp; omega
            ·
              simp only [decide_eq_true_eq, decide_eq_false_iff_not, Bool.and_eq_true, Bool.or_eq_true, Bool.and_eq_false_iff, Bool.or_eq_false_iff, Bool.not_eq_true', Bool.not_eq_false', beq_iff_eq, bne_iff_ne, Int.not_lt, Int.not_le, Decidable.not_not, ne_eq] at c3
              refine C.exit ?_
              refine X.thenExit ?_
              refine X.thenExit ?_
              refine X.inHit ?_
              refine X.go ?_
              refine C.keep .nil ?_
              refine C.seq ?_
              refine C.reg ?_
              refine J.q rfl rfl rfl rfl (Q.assign .c) ?_  -- 21:0 cable.go:263 t4 assign
              refine J.q rfl rfl rfl rfl (Q.assign .c) ?_  -- 21:1 cable.go:263 t5 assign
              refine J.end_ ?_
              refine C.ret ?_
              refine X.leave ?_
              refine XL.marks ?_
              refine XL.ret2 rfl 1 0 rfl rfl (fun w hA => ?_)
              exact PostV.eq hA (by rw [share_none ha0 h (by rw [List.take_of_length_le (by rw [List.length_zip, sumsUpto_length]; omega)] at hko; exact hko)])

end Go.Proofs
namespace Go.Proofs
open Go Go.J Go.RowKit Go.Cab
set_option maxRecDepth 4096
set_option linter.unusedSimpArgs false
set_option linter.unusedVariables false
theorem currents_calls (w : World) (c : Cable) (b o cc p q : Nat) (hF : Fit c) (hr : (rowO (some ⟨b, o, none⟩) 8 Nd.enc c.nodes).ok w) (ht : (bx p 82 (c.tcells (some ⟨b, o, none⟩) cc q)).ok w) : Calls Try.prog 55 [.pointer (some ⟨p, 0, none⟩)].toArray w (PostN (fun _ : Nat => True) (fun x => .slice (some ⟨x, 0, none⟩) c.nodes.length c.nodes.length) (fun x => bx x 23 ((currents c).flatMap Span.enc)) w) := by
  have hn0 := hF.pos
  have hn60 := hF.le
  refine Calls.enterM Try.func55 rfl rfl rfl ?_
  refine C.conseq (A' := St w no [] [needR c (some ⟨b, o, none⟩) cc p q, bx p 82 (c.tcells (some ⟨b, o, none⟩) cc q), rowO (some ⟨b, o, none⟩) 8 Nd.enc c.nodes]) (fun _ e => by subst e; exact St.init _ _ (by have : (needR c (some ⟨b, o, none⟩) cc p q).ok _ := both.ok_iff.2 ⟨ht, hr⟩; simp [this, hr, ht])) ?_
  refine C.seq ?_
  refine C.reg ?_
  refine J.q rfl rfl rfl rfl (Q.assign .c) ?_  -- 0:0 cable.go:112 t2 assign
  refine J.end_ ?_
  refine C.keep (.cons 1 rfl .nil) ?_
  refine C.seq ?_
  refine C.reg ?_
  refine J.q rfl rfl rfl rfl (Q.move (.t 0 rfl)) ?_  -- 1:0 cable.go:113 t7 move
  refine J.q rfl rfl rfl rfl (Q.nilCheck (.t 0 rfl)) ?_  -- 1:1 cable.go:113 t8 nilCheck
  refine J.q rfl rfl rfl rfl (Q.fa 0 Try.underlying82 rfl Try.sizeOf26 rfl rfl (.t 0 rfl)) ?_  -- 1:2 cable.go:113 t9 fieldAddr
  refine J.q rfl rfl rfl rfl (Q.fa 2 Try.underlying26 rfl Try.sizeOf24 rfl rfl (.t 0 rfl)) ?_  -- 1:3 cable.go:113 t10 fieldAddr
  refine J.q rfl rfl rfl rfl (Q.load (.t 0 rfl) Try.isAgg24 (by first | (first | exact ldT 1 0 rfl (by repeat constructor) | exact ldTΦ 1 0 rfl (by repeat constructor) | exact ldT 1 1 rfl (by repeat constructor) | exact ldTΦ 1 1 rfl (by repeat constructor) | exact ldT 1 2 rfl (by repeat constructor) | exact ldTΦ 1 2 rfl (by repeat constructor) | exact ldT 1 3 rfl (by repeat constructor) | exact ldTΦ 1 3 rfl (by repeat constructor) | exact ldT 1 4 rfl (by repeat constructor) | exact ldTΦ 1 4 rfl (by repeat constructor) | exact ldT 1 5 rfl (by repeat constructor) | exact ldTΦ 1 5 rfl (by repeat constructor) | exact ldT 1 6 rfl (by repeat constructor) | exact ldO 0 rfl (by assumption) | exact ldO 1 rfl (by assumption) | exact ldO 2 rfl (by assumption) | exact ldO 3 rfl (by assumption) | exact ldOT 1 0 rfl (by assumption) (by repeat constructor) | exact ldOT 1 1 rfl (by assumption) (by repeat constructor) | exact ldOT 1 2 rfl (by assumption) (by repeat constructor) | exact ldOT 1 3 rfl (by assumption) (by repeat constructor)) | (first | exact ldO1 0 rfl (by assumption) rfl | exact ldO1 1 rfl (by assumption) rfl | exact ldO1 2 rfl (by assumption) rfl | exact ldO1 3 rfl (by assumption) rfl | exact ldO1 4 rfl (by assumption) rfl | exact ldO1 5 rfl (by assumption) rfl | exact ldM1 0 rfl (fun _ => rfl) (by assumption) rfl | exact ldM1 1 rfl (fun _ => rfl) (by assumption) rfl | exact ldM1 2 rfl (fun _ => rfl) (by assumption) rfl | exact ldM1 3 rfl (fun _ => rfl) (by assumption) rfl | exact ldM1 4 rfl (fun _ => rfl) (by assumption) rfl | exact ldM1 5 rfl (fun _ => rfl) (by assumption) rfl))) ?_  -- 1:4 cable.go:113 t11 load
  refine J.q rfl rfl rfl rfl (Q.len Try.underlying24 (.t 0 rfl)) ?_  -- 1:5 cable.go:113 t12 call
  refine J.mkS rfl rfl rfl rfl Try.underlying51 inf23 (by simp) (.t 0 rfl) (.t 0 rfl) (by omega) (by omega) ?_; intro b13 hb13  -- 1:6 cable.go:113 t13 makeSlice
  refine J.alloc rfl rfl rfl rfl Try.zeroValue51 rfl ?_; intro b3 hb3  -- 1:7 cable.go:113 t3 alloc
  refine J.s rfl rfl rfl (S.storeP (.t 0 rfl) (.t 1 rfl) Try.sizeOf51 rfl rfl (by (first | exact Nd.enc_one _ | (first | exact Span.enc_one _ | ((intro u hu; simp at hu; first | done | ((repeat' (rcases hu with rfl | hu)) <;> (try subst hu) <;> rfl)))))) (by (repeat (first | exact Upd.here | apply Upd.there))) (by (repeat constructor); done)) ?_  -- 1:8 cable.go:113 tNone store
  refine J.end_ ?_
  refine C.keep (.cons 0 rfl (.cons 8 rfl .nil)) ?_
  refine C.seq ?_
  refine C.seq ?_
  refine C.reg ?_
  refine J.q rfl rfl rfl rfl (Q.move (.t 1 rfl)) ?_  -- 2:0 cable.go:114 t14 move
  refine J.q rfl rfl rfl rfl (Q.nilCheck (.t 0 rfl)) ?_  -- 2:1 cable.go:114 t15 nilCheck
  refine J.q rfl rfl rfl rfl (Q.fa 0 Try.underlying82 rfl Try.sizeOf26 rfl rfl (.t 0 rfl)) ?_  -- 2:2 cable.go:114 t16 fieldAddr
  refine J.q rfl rfl rfl rfl (Q.fa 2 Try.underlying26 rfl Try.sizeOf24 rfl rfl (.t 0 rfl)) ?_  -- 2:3 cable.go:114 t17 fieldAddr
  refine J.q rfl rfl rfl rfl (Q.load (.t 0 rfl) Try.isAgg24 (by first | (first | exact ldT 1 0 rfl (by repeat constructor) | exact ldTΦ 1 0 rfl (by repeat constructor) | exact ldT 1 1 rfl (by repeat constructor) | exact ldTΦ 1 1 rfl (by repeat constructor) | exact ldT 1 2 rfl (by repeat constructor) | exact ldTΦ 1 2 rfl (by repeat constructor) | exact ldT 1 3 rfl (by repeat constructor) | exact ldTΦ 1 3 rfl (by repeat constructor) | exact ldT 1 4 rfl (by repeat constructor) | exact ldTΦ 1 4 rfl (by repeat constructor) | exact ldT 1 5 rfl (by repeat constructor) | exact ldTΦ 1 5 rfl (by repeat constructor) | exact ldT 1 6 rfl (by repeat constructor) | exact ldO 0 rfl (by assumption) | exact ldO 1 rfl (by assumption) | exact ldO 2 rfl (by assumption) | exact ldO 3 rfl (by assumption) | exact ldOT 1 0 rfl (by assumption) (by repeat constructor) | exact ldOT 1 1 rfl (by assumption) (by repeat constructor) | exact ldOT 1 2 rfl (by assumption) (by repeat constructor) | exact ldOT 1 3 rfl (by assumption) (by repeat constructor)) | (first | exact ldO1 0 rfl (by assumption) rfl | exact ldO1 1 rfl (by assumption) rfl | exact ldO1 2 rfl (by assumption) rfl | exact ldO1 3 rfl (by assumption) rfl | exact ldO1 4 rfl (by assumption) rfl | exact ldO1 5 rfl (by assumption) rfl | exact ldM1 0 rfl (fun _ => rfl) (by assumption) rfl | exact ldM1 1 rfl (fun _ => rfl) (by assumption) rfl | exact ldM1 2 rfl (fun _ => rfl) (by assumption) rfl | exact ldM1 3 rfl (fun _ => rfl) (by assumption) rfl | exact ldM1 4 rfl (fun _ => rfl) (by assumption) rfl | exact ldM1 5 rfl (fun _ => rfl) (by assumption) rfl))) ?_  -- 2:4 cable.go:114 t18 load
  refine J.q rfl rfl rfl rfl (Q.len Try.underlying24 (.t 0 rfl)) ?_  -- 2:5 cable.go:114 t19 call
  refine J.q rfl rfl rfl rfl (Q.move .c) ?_  -- 2:6 cable.go:114 t20 move
  refine J.end_ ?_
  refine C.keep (.cons 0 rfl (.cons 1 rfl (.cons 2 rfl (.cons 7 rfl (.cons 8 rfl .nil))))) ?_
  refine C.block ?_
  refine C.loopD_1 (fun g => .int .i64 (g.1.1 : Int)) (G := { g : Nat × List Span × List Nat // g.1 ≤ c.nodes.length ∧ g.2.1 = curUpto c g.1 ∧ g.2.1.length = c.nodes.length ∧ ∀ z ∈ g.2.1, 0 ≤ z.lo ∧ z.lo ≤ z.hi ∧ z.hi ≤ g.1 * 3932160 }) (fun g => g.1.2.2.map mk) (fun g => St w no ([bx b3 51 [.slice (some ⟨b13, 0, none⟩) c.nodes.length c.nodes.length], bx b13 23 (g.1.2.1.flatMap Span.enc)] ++ g.1.2.2.map om) [needR c (some ⟨b, o, none⟩) cc p q, bx p 82 (c.tcells (some ⟨b, o, none⟩) cc q), rowO (some ⟨b, o, none⟩) 8 Nd.enc c.nodes]) (fun g => c.nodes.length - g.1.1) (⟨(0, List.replicate c.nodes.length ⟨0, 0⟩, []), by simp, rfl, by simp, by intro z hz; have := (List.mem_replicate.1 hz).2; subst this; simp⟩) rfl (by (first | rfl | (simp; done))) ?_ ?_
  ·
    exact fun _ h => by rw [← flat_repS]; exact h
  ·
    rintro ⟨⟨i, s, ms⟩, hi, hs, hl, hsb⟩
    dsimp only
    dsimp only at hi hs hl hsb
    refine C.seq ?_
    refine C.reg ?_
    refine J.q rfl rfl rfl rfl (Q.lss (.t 0 rfl) (.t 1 rfl)) ?_  -- 3:0 cable.go:114 t21 binOp
    refine J.end_ ?_
    refine C.seq ?_
    refine C.cond (.t 0 rfl) (fun c0 => ?_) (fun c0 => ?_)  -- cond 0
    ·
      simp only [decide_eq_true_eq, decide_eq_false_iff_not, Bool.and_eq_true, Bool.or_eq_true, Bool.and_eq_false_iff, Bool.or_eq_false_iff, Bool.not_eq_true', Bool.not_eq_false', beq_iff_eq, bne_iff_ne, Int.not_lt, Int.not_le, Decidable.not_not, ne_eq] at c0
      have hlt : i < c.nodes.length := by omega
      obtain ⟨n, hx⟩ := get_lt hlt
      have hng := Nd.good_props (hF.good i n hx)
      have hnl : c.load i = n.load := by simp [Cable.load, hx]
      refine C.skip ?_
      refine X.go ?_
      refine C.keep (.cons 1 rfl (.cons 2 rfl (.cons 3 rfl (.cons 4 rfl (.cons 5 rfl .nil))))) ?_
      refine C.seq ?_
      refine C.block ?_
      refine C.seq ?_
      refine C.reg ?_
      refine J.q rfl rfl rfl rfl (Q.move (.t 0 rfl)) ?_  -- 4:0 cable.go:114 t22 move
      refine J.q rfl rfl rfl rfl (Q.indexAddr Try.underlying24 Try.sizeOf40 (.t 3 rfl) (.t 1 rfl) (by omega)) ?_  -- 4:1 cable.go:114 t23 indexAddr
      refine J.q rfl rfl rfl rfl (Q.loadsV (.t 0 rfl) ⟨Try.isAgg40, Try.sizeOf40⟩ (by exact ldO 2 rfl hx) rfl) ?_  -- 4:2 cable.go:114 t24 load
      refine J.alloc rfl rfl rfl rfl Try.zeroValue40 rfl ?_; intro b5 hb5  -- 4:3 cable.go:114 t5 alloc
      refine J.q rfl rfl rfl rfl (Q.assign (.t 3 rfl)) ?_  -- 4:4 cable.go:114 t4 assign
      refine J.s rfl rfl rfl (S.storeP (.t 1 rfl) (.t 2 rfl) Try.sizeOf40 rfl rfl (by (first | exact Nd.enc_one _ | (first | exact Span.enc_one _ | ((intro u hu; simp at hu; first | done | ((repeat' (rcases hu with rfl | hu)) <;> (try subst hu) <;> rfl)))))) (by (repeat (first | exact Upd.here | apply Upd.there))) (by (repeat constructor); done)) ?_  -- 4:5 cable.go:114 tNone store
      refine J.end_ ?_
      refine C.keep (.cons 0 rfl (.cons 1 rfl (.cons 5 rfl (.cons 6 rfl (.cons 7 rfl (.cons 8 rfl (.cons 9 rfl .nil))))))) ?_
      refine C.seq ?_
      refine C.reg ?_
      refine J.q rfl rfl rfl rfl (Q.move (.t 6 rfl)) ?_  -- 5:0 cable.go:115 t25 move
      refine J.q rfl rfl rfl rfl (Q.move (.t 1 rfl)) ?_  -- 5:1 cable.go:115 t26 move
      refine J.callNF rfl rfl rfl rfl (run_static Try.call27 .f (.cons (.t 1 rfl) (.cons (.t 0 rfl) .nil)) rfl) (fun w hA => up_calls w p i) ?_  -- 5:2 cable.go:115 t27 call
      intro x2 _ hnew
      refine J.end_ ?_
      refine C.keep (.cons 0 rfl (.cons 4 rfl (.cons 5 rfl (.cons 6 rfl (.cons 7 rfl (.cons 8 rfl (.cons 9 rfl .nil))))))) ?_
      refine C.block ?_
      refine C.range (ps := [28]) (()) (.t 0 rfl) Try.call49 (up_iter c b o cc p q x2.1 x2.2 i hF (by omega)) (.here) (nd := 0) (Mk := fun j (_ : Unit) => [bx b5 40 n.enc, bx b3 51 [.slice (some ⟨b13, 0, none⟩) c.nodes.length c.nodes.length], bx b13 23 ((addSp s ((path c i).take j) n.load).flatMap Span.enc)] ++ ms.map om) rfl rfl (fun j v hv => by obtain ⟨y, _, rfl⟩ := pathV_nth hv; rfl) (G := Empty) (fun e => e.elim) (fun e => e.elim) ?_ ?_ ?_
      ·
        intro l rD rc w' j γ v hrc hst hv
        obtain ⟨y, hy, rfl⟩ := pathV_nth hv
        obtain ⟨hy0, hyi⟩ := path_mem hF (List.mem_of_getElem? hy)
        have hjl : (path c i).length ≤ 60 := path_length hF (by omega)
        have hb2 := addSp_bound (s := s) (ps := (path c i).take j) hsb (show 0 ≤ n.load.lo ∧ n.load.lo ≤ n.load.hi ∧ n.load.hi ≤ 65536 by omega)
        have hl2 : (addSp s ((path c i).take j) n.load).length = c.nodes.length := by rw [addSp_length]; exact hl
        obtain ⟨z, hz⟩ := get_lt (xs := addSp s ((path c i).take j) n.load) (i := y.toNat) (by omega)
        have hzb := hb2 z (List.mem_of_getElem? hz)
        rw [List.length_take] at hzb
        refine C.rnd ?_
        refine C.reg ?_
        refine J.q rfl rfl rfl rfl (Q.assign (.t 0 rfl)) ?_  -- 6:0 cable.go:115 t6 assign
        refine J.done ?_
        refine X.body hrc ?_
        refine C.block ?_
        refine C.seq ?_
        refine C.drawS ?_
        refine JC.q 0 rfl rfl rfl rfl (Q.load (.t 7 rfl) Try.isAgg51 (by first | (first | exact ldT 1 0 rfl (by repeat constructor) | exact ldTΦ 1 0 rfl (by repeat constructor) | exact ldT 1 1 rfl (by repeat constructor) | exact ldTΦ 1 1 rfl (by repeat constructor) | exact ldT 1 2 rfl (by repeat constructor) | exact ldTΦ 1 2 rfl (by repeat constructor) | exact ldT 1 3 rfl (by repeat constructor) | exact ldTΦ 1 3 rfl (by repeat constructor) | exact ldT 1 4 rfl (by repeat constructor) | exact ldTΦ 1 4 rfl (by repeat constructor) | exact ldT 1 5 rfl (by repeat constructor) | exact ldTΦ 1 5 rfl (by repeat constructor) | exact ldT 1 6 rfl (by repeat constructor) | exact ldO 0 rfl (by assumption) | exact ldO 1 rfl (by assumption) | exact ldO 2 rfl (by assumption) | exact ldO 3 rfl (by assumption) | exact ldOT 1 0 rfl (by assumption) (by repeat constructor) | exact ldOT 1 1 rfl (by assumption) (by repeat constructor) | exact ldOT 1 2 rfl (by assumption) (by repeat constructor) | exact ldOT 1 3 rfl (by assumption) (by repeat constructor)) | (first | exact ldO1 0 rfl (by assumption) rfl | exact ldO1 1 rfl (by assumption) rfl | exact ldO1 2 rfl (by assumption) rfl | exact ldO1 3 rfl (by assumption) rfl | exact ldO1 4 rfl (by assumption) rfl | exact ldO1 5 rfl (by assumption) rfl | exact ldM1 0 rfl (fun _ => rfl) (by assumption) rfl | exact ldM1 1 rfl (fun _ => rfl) (by assumption) rfl | exact ldM1 2 rfl (fun _ => rfl) (by assumption) rfl | exact ldM1 3 rfl (fun _ => rfl) (by assumption) rfl | exact ldM1 4 rfl (fun _ => rfl) (by assumption) rfl | exact ldM1 5 rfl (fun _ => rfl) (by assumption) rfl))) ?_  -- 7:0 cable.go:116 t29 load
        refine JC.q 1 rfl rfl rfl rfl (Q.move (.t 1 rfl)) ?_  -- 7:1 cable.go:116 t30 move
        refine JC.q 2 rfl rfl rfl rfl (Q.indexAddr Try.underlying51 Try.sizeOf23 (.t 1 rfl) (.t 0 rfl) (by omega)) ?_  -- 7:2 cable.go:116 t31 indexAddr
        refine JC.q 3 rfl rfl rfl rfl (Q.fa 0 Try.underlying23 rfl Try.sizeOf2 rfl rfl (.t 0 rfl)) ?_  -- 7:3 cable.go:116 t32 fieldAddr
        refine JC.q 4 rfl rfl rfl rfl (Q.load (.t 0 rfl) Try.isAgg2 (by exact ldMOT (n := 1) 4 rfl (fun _ => rfl) hz (by (repeat constructor); done))) ?_  -- 7:4 cable.go:116 t33 load
        refine JC.q 5 rfl rfl rfl rfl (Q.fa0 4 Try.underlying40 rfl Try.sizeOf23 rfl rfl (.t 8 rfl)) ?_  -- 7:5 cable.go:116 t34 fieldAddr
        refine JC.q 6 rfl rfl rfl rfl (Q.fa 0 Try.underlying23 rfl Try.sizeOf2 rfl rfl (.t 0 rfl)) ?_  -- 7:6 cable.go:116 t35 fieldAddr
        refine JC.q 7 rfl rfl rfl rfl (Q.load (.t 0 rfl) Try.isAgg2 (by first | (first | exact ldT 1 0 rfl (by repeat constructor) | exact ldTΦ 1 0 rfl (by repeat constructor) | exact ldT 1 1 rfl (by repeat constructor) | exact ldTΦ 1 1 rfl (by repeat constructor) | exact ldT 1 2 rfl (by repeat constructor) | exact ldTΦ 1 2 rfl (by repeat constructor) | exact ldT 1 3 rfl (by repeat constructor) | exact ldTΦ 1 3 rfl (by repeat constructor) | exact ldT 1 4 rfl (by repeat constructor) | exact ldTΦ 1 4 rfl (by repeat constructor) | exact ldT 1 5 rfl (by repeat constructor) | exact ldTΦ 1 5 rfl (by repeat constructor) | exact ldT 1 6 rfl (by repeat constructor) | exact ldO 0 rfl (by assumption) | exact ldO 1 rfl (by assumption) | exact ldO 2 rfl (by assumption) | exact ldO 3 rfl (by assumption) | exact ldOT 1 0 rfl (by assumption) (by repeat constructor) | exact ldOT 1 1 rfl (by assumption) (by repeat constructor) | exact ldOT 1 2 rfl (by assumption) (by repeat constructor) | exact ldOT 1 3 rfl (by assumption) (by repeat constructor)) | (first | exact ldO1 0 rfl (by assumption) rfl | exact ldO1 1 rfl (by assumption) rfl | exact ldO1 2 rfl (by assumption) rfl | exact ldO1 3 rfl (by assumption) rfl | exact ldO1 4 rfl (by assumption) rfl | exact ldO1 5 rfl (by assumption) rfl | exact ldM1 0 rfl (fun _ => rfl) (by assumption) rfl | exact ldM1 1 rfl (fun _ => rfl) (by assumption) rfl | exact ldM1 2 rfl (fun _ => rfl) (by assumption) rfl | exact ldM1 3 rfl (fun _ => rfl) (by assumption) rfl | exact ldM1 4 rfl (fun _ => rfl) (by assumption) rfl | exact ldM1 5 rfl (fun _ => rfl) (by assumption) rfl))) ?_  -- 7:7 cable.go:116 t36 load
        refine JC.q 8 rfl rfl rfl rfl (Q.add (.t 3 rfl) (.t 0 rfl) (by omega)) ?_  -- 7:8 cable.go:116 t37 binOp
        refine JC.q 9 rfl rfl rfl rfl (Q.indexAddr Try.underlying51 Try.sizeOf23 (.t 8 rfl) (.t 7 rfl) (by omega)) ?_  -- 7:9 cable.go:116 t38 indexAddr
        refine JC.q 10 rfl rfl rfl rfl (Q.fa 0 Try.underlying23 rfl Try.sizeOf2 rfl rfl (.t 0 rfl)) ?_  -- 7:10 cable.go:116 t39 fieldAddr
        refine JC.tail [0, 0, 3, 7, 15, 0, 32, 96, 255, 511, 1023, 2047] 1 mixed (by kernel_rfl) (by kernel_rfl) (by (first | (exact fun _ h => h) | (exact fun _ h => h.dropM) | (exact fun _ h => h.dropM.dropM) | (exact fun _ h => h.sub (by (repeat (first | exact List.Sublist.refl _ | exact List.nil_sublist _ | apply List.Sublist.cons_cons | apply List.Sublist.cons)); done)) | (exact fun _ h => h.subΦ (fun i hi => List.mem_cons_of_mem _ hi)))) ?_
        refine JT.pick [11] (by kernel_rfl) (.cons (DStep.of rfl ?_) .nil)
        refine J.s rfl rfl rfl (S.storeRP (enc := Span.enc) (e' := (⟨z.lo + n.load.lo, z.hi⟩ : Span)) (.t 0 rfl) (.t 2 rfl) Try.sizeOf2 (fun _ => rfl) rfl rfl (by (first | exact Nd.enc_one _ | (first | exact Span.enc_one _ | ((intro u hu; simp at hu; first | done | ((repeat' (rcases hu with rfl | hu)) <;> (try subst hu) <;> rfl)))))) hz (by (repeat constructor); done) (by (repeat (first | exact Upd.here | apply Upd.there)))) ?_
        have hz2 : ((addSp s ((path c i).take j) n.load).set y.toNat (⟨z.lo + n.load.lo, z.hi⟩ : Span))[y.toNat]? = some (⟨z.lo + n.load.lo, z.hi⟩ : Span) := by rw [List.getElem?_set_self (by omega)]
        refine J.finF rfl rfl ?_
        refine JT.end_ ?_
        refine X.go ?_
        refine C.keep (.cons 11 rfl (.cons 13 rfl (.cons 14 rfl (.cons 15 rfl (.cons 16 rfl (.cons 17 rfl (.cons 18 rfl (.cons 19 rfl .nil)))))))) ?_
        refine C.drawS ?_
        refine JC.q 0 rfl rfl rfl rfl (Q.load (.t 6 rfl) Try.isAgg51 (by first | (first | exact ldT 1 0 rfl (by repeat constructor) | exact ldTΦ 1 0 rfl (by repeat constructor) | exact ldT 1 1 rfl (by repeat constructor) | exact ldTΦ 1 1 rfl (by repeat constructor) | exact ldT 1 2 rfl (by repeat constructor) | exact ldTΦ 1 2 rfl (by repeat constructor) | exact ldT 1 3 rfl (by repeat constructor) | exact ldTΦ 1 3 rfl (by repeat constructor) | exact ldT 1 4 rfl (by repeat constructor) | exact ldTΦ 1 4 rfl (by repeat constructor) | exact ldT 1 5 rfl (by repeat constructor) | exact ldTΦ 1 5 rfl (by repeat constructor) | exact ldT 1 6 rfl (by repeat constructor) | exact ldO 0 rfl (by assumption) | exact ldO 1 rfl (by assumption) | exact ldO 2 rfl (by assumption) | exact ldO 3 rfl (by assumption) | exact ldOT 1 0 rfl (by assumption) (by repeat constructor) | exact ldOT 1 1 rfl (by assumption) (by repeat constructor) | exact ldOT 1 2 rfl (by assumption) (by repeat constructor) | exact ldOT 1 3 rfl (by assumption) (by repeat constructor)) | (first | exact ldO1 0 rfl (by assumption) rfl | exact ldO1 1 rfl (by assumption) rfl | exact ldO1 2 rfl (by assumption) rfl | exact ldO1 3 rfl (by assumption) rfl | exact ldO1 4 rfl (by assumption) rfl | exact ldO1 5 rfl (by assumption) rfl | exact ldM1 0 rfl (fun _ => rfl) (by assumption) rfl | exact ldM1 1 rfl (fun _ => rfl) (by assumption) rfl | exact ldM1 2 rfl (fun _ => rfl) (by assumption) rfl | exact ldM1 3 rfl (fun _ => rfl) (by assumption) rfl | exact ldM1 4 rfl (fun _ => rfl) (by assumption) rfl | exact ldM1 5 rfl (fun _ => rfl) (by assumption) rfl))) ?_  -- 8:0 cable.go:117 t40 load
        refine JC.q 1 rfl rfl rfl rfl (Q.move (.t 1 rfl)) ?_  -- 8:1 cable.go:117 t41 move
        refine JC.q 2 rfl rfl rfl rfl (Q.indexAddr Try.underlying51 Try.sizeOf23 (.t 1 rfl) (.t 0 rfl) (by omega)) ?_  -- 8:2 cable.go:117 t42 indexAddr
        refine JC.q 3 rfl rfl rfl rfl (Q.fa 1 Try.underlying23 rfl Try.sizeOf2 rfl rfl (.t 0 rfl)) ?_  -- 8:3 cable.go:117 t43 fieldAddr
        refine JC.q 4 rfl rfl rfl rfl (Q.load (.t 0 rfl) Try.isAgg2 (by exact ldMOT (n := 1) 4 rfl (fun _ => rfl) hz2 (by (repeat constructor); done))) ?_  -- 8:4 cable.go:117 t44 load
        refine JC.q 5 rfl rfl rfl rfl (Q.fa0 4 Try.underlying40 rfl Try.sizeOf23 rfl rfl (.t 7 rfl)) ?_  -- 8:5 cable.go:117 t45 fieldAddr
        refine JC.q 6 rfl rfl rfl rfl (Q.fa 1 Try.underlying23 rfl Try.sizeOf2 rfl rfl (.t 0 rfl)) ?_  -- 8:6 cable.go:117 t46 fieldAddr
        refine JC.q 7 rfl rfl rfl rfl (Q.load (.t 0 rfl) Try.isAgg2 (by first | (first | exact ldT 1 0 rfl (by repeat constructor) | exact ldTΦ 1 0 rfl (by repeat constructor) | exact ldT 1 1 rfl (by repeat constructor) | exact ldTΦ 1 1 rfl (by repeat constructor) | exact ldT 1 2 rfl (by repeat constructor) | exact ldTΦ 1 2 rfl (by repeat constructor) | exact ldT 1 3 rfl (by repeat constructor) | exact ldTΦ 1 3 rfl (by repeat constructor) | exact ldT 1 4 rfl (by repeat constructor) | exact ldTΦ 1 4 rfl (by repeat constructor) | exact ldT 1 5 rfl (by repeat constructor) | exact ldTΦ 1 5 rfl (by repeat constructor) | exact ldT 1 6 rfl (by repeat constructor) | exact ldO 0 rfl (by assumption) | exact ldO 1 rfl (by assumption) | exact ldO 2 rfl (by assumption) | exact ldO 3 rfl (by assumption) | exact ldOT 1 0 rfl (by assumption) (by repeat constructor) | exact ldOT 1 1 rfl (by assumption) (by repeat constructor) | exact ldOT 1 2 rfl (by assumption) (by repeat constructor) | exact ldOT 1 3 rfl (by assumption) (by repeat constructor)) | (first | exact ldO1 0 rfl (by assumption) rfl | exact ldO1 1 rfl (by assumption) rfl | exact ldO1 2 rfl (by assumption) rfl | exact ldO1 3 rfl (by assumption) rfl | exact ldO1 4 rfl (by assumption) rfl | exact ldO1 5 rfl (by assumption) rfl | exact ldM1 0 rfl (fun _ => rfl) (by assumption) rfl | exact ldM1 1 rfl (fun _ => rfl) (by assumption) rfl | exact ldM1 2 rfl (fun _ => rfl) (by assumption) rfl | exact ldM1 3 rfl (fun _ => rfl) (by assumption) rfl | exact ldM1 4 rfl (fun _ => rfl) (by assumption) rfl | exact ldM1 5 rfl (fun _ => rfl) (by assumption) rfl))) ?_  -- 8:7 cable.go:117 t47 load
        refine JC.q 8 rfl rfl rfl rfl (Q.add (.t 3 rfl) (.t 0 rfl) (by dsimp only; omega)) ?_  -- 8:8 cable.go:117 t48 binOp
        refine JC.q 9 rfl rfl rfl rfl (Q.indexAddr Try.underlying51 Try.sizeOf23 (.t 8 rfl) (.t 7 rfl) (by omega)) ?_  -- 8:9 cable.go:117 t49 indexAddr
        refine JC.q 10 rfl rfl rfl rfl (Q.fa 1 Try.underlying23 rfl Try.sizeOf2 rfl rfl (.t 0 rfl)) ?_  -- 8:10 cable.go:117 t50 fieldAddr
        refine JC.tail [0, 0, 3, 7, 15, 0, 32, 96, 255, 511, 1023, 2047] 1 mixed (by kernel_rfl) (by kernel_rfl) (by (first | (exact fun _ h => h) | (exact fun _ h => h.dropM) | (exact fun _ h => h.dropM.dropM) | (exact fun _ h => h.sub (by (repeat (first | exact List.Sublist.refl _ | exact List.nil_sublist _ | apply List.Sublist.cons_cons | apply List.Sublist.cons)); done)) | (exact fun _ h => h.subΦ (fun i hi => List.mem_cons_of_mem _ hi)))) ?_
        refine JT.pick [11] (by kernel_rfl) (.cons (DStep.of rfl ?_) .nil)
        refine J.s rfl rfl rfl (S.storeRP (enc := Span.enc) (e' := (z.add n.load)) (.t 0 rfl) (.t 2 rfl) Try.sizeOf2 (fun _ => rfl) rfl rfl (by (first | exact Nd.enc_one _ | (first | exact Span.enc_one _ | ((intro u hu; simp at hu; first | done | ((repeat' (rcases hu with rfl | hu)) <;> (try subst hu) <;> rfl)))))) hz2 (by (repeat constructor); done) (by (repeat (first | exact Upd.here | apply Upd.there)))) ?_
        refine J.finF rfl rfl ?_
        refine JT.end_ ?_
        refine X.inNormal ?_
        refine (X.next_ (()) hrc hst).conv ?_
        exact fun _ h => by rw [addSp_take hy hz]; rw [List.set_set] at h; exact h
      ·
        intro rD γ hrD
        refine X.inNormal ?_
        refine X.inNormal ?_
        refine X.go ?_
        refine C.keep (.cons 2 rfl (.cons 3 rfl (.cons 4 rfl (.cons 5 rfl (.cons 6 rfl .nil))))) ?_
        refine C.reg ?_
        refine J.q rfl rfl rfl rfl (Q.add (.t 0 rfl) .c (by omega)) ?_  -- 9:0 cable.go:114 t51 binOp
        refine J.keep (.cons 0 rfl (.cons 2 rfl (.cons 3 rfl (.cons 4 rfl (.cons 5 rfl .nil))))) ?_
        refine J.q rfl rfl rfl rfl (Q.move (.t 0 rfl)) ?_  -- 9:1 cable.go:114 t20 move
        refine J.done ?_
        refine X.nxD (⟨(i + 1, addSp s (path c i) n.load, rD :: ms), by simp only; omega, by rw [hs, curUpto, hnl], by rw [addSp_length]; exact hl, cur_next hF hsb (by omega) (by omega)⟩) rfl (.cons 0 (by (first | rfl | (simp; done))) (.cons 2 (by (first | rfl | (simp; done))) (.cons 3 (by (first | rfl | (simp; done))) (.cons 4 (by (first | rfl | (simp; done))) (.cons 5 (by (first | rfl | (simp; done))) .nil))))) ?_ ?_
        ·
          exact fun _ h => markIn (l := [_, _]) (by rw [pathV_len, List.take_length] at h; exact h)
        ·
          simp; omega
      ·
        intro rD e; exact e.elim
    ·
      simp only [decide_eq_true_eq, decide_eq_false_iff_not, Bool.and_eq_true, Bool.or_eq_true, Bool.and_eq_false_iff, Bool.or_eq_false_iff, Bool.not_eq_true', Bool.not_eq_false', beq_iff_eq, bne_iff_ne, Int.not_lt, Int.not_le, Decidable.not_not, ne_eq] at c0
      have hsn : s = currents c := by rw [hs, currents]; congr 1; omega
      refine C.exit ?_
      refine X.thenExit ?_
      refine X.thenExit ?_
      refine X.inHit ?_
      refine X.go ?_
      refine C.keep (.cons 4 rfl .nil) ?_
      refine C.seq ?_
      refine C.reg ?_
      refine J.q rfl rfl rfl rfl (Q.load (.t 0 rfl) Try.isAgg51 (by first | (first | exact ldT 1 0 rfl (by repeat constructor) | exact ldTΦ 1 0 rfl (by repeat constructor) | exact ldT 1 1 rfl (by repeat constructor) | exact ldTΦ 1 1 rfl (by repeat constructor) | exact ldT 1 2 rfl (by repeat constructor) | exact ldTΦ 1 2 rfl (by repeat constructor) | exact ldT 1 3 rfl (by repeat constructor) | exact ldTΦ 1 3 rfl (by repeat constructor) | exact ldT 1 4 rfl (by repeat constructor) | exact ldTΦ 1 4 rfl (by repeat constructor) | exact ldT 1 5 rfl (by repeat constructor) | exact ldTΦ 1 5 rfl (by repeat constructor) | exact ldT 1 6 rfl (by repeat constructor) | exact ldO 0 rfl (by assumption) | exact ldO 1 rfl (by assumption) | exact ldO 2 rfl (by assumption) | exact ldO 3 rfl (by assumption) | exact ldOT 1 0 rfl (by assumption) (by repeat constructor) | exact ldOT 1 1 rfl (by assumption) (by repeat constructor) | exact ldOT 1 2 rfl (by assumption) (by repeat constructor) | exact ldOT 1 3 rfl (by assumption) (by repeat constructor)) | (first | exact ldO1 0 rfl (by assumption) rfl | exact ldO1 1 rfl (by assumption) rfl | exact ldO1 2 rfl (by assumption) rfl | exact ldO1 3 rfl (by assumption) rfl | exact ldO1 4 rfl (by assumption) rfl | exact ldO1 5 rfl (by assumption) rfl | exact ldM1 0 rfl (fun _ => rfl) (by assumption) rfl | exact ldM1 1 rfl (fun _ => rfl) (by assumption) rfl | exact ldM1 2 rfl (fun _ => rfl) (by assumption) rfl | exact ldM1 3 rfl (fun _ => rfl) (by assumption) rfl | exact ldM1 4 rfl (fun _ => rfl) (by assumption) rfl | exact ldM1 5 rfl (fun _ => rfl) (by assumption) rfl))) ?_  -- 10:0 cable.go:120 t52 load
      refine J.q rfl rfl rfl rfl (Q.assign (.t 0 rfl)) ?_  -- 10:1 cable.go:120 t2 assign
      refine J.end_ ?_
      refine C.keep (.cons 0 rfl .nil) ?_
      refine C.ret ?_
      refine X.leave ?_
      refine XL.marks ?_
      refine XL.ret1 rfl 0 rfl (fun w hA => ?_)
      exact PostN.of (X := Nat) b13 trivial (by have h := hA.front (.there .here); rw [hsn] at h; exact h)

end Go.Proofs
namespace Go.Proofs
open Go Go.J Go.RowKit Go.Cab
set_option maxRecDepth 4096
set_option linter.unusedSimpArgs false
set_option linter.unusedVariables false
theorem voltages_calls (w : World) (c : Cable) (b o cc p q : Nat) (hF : Fit c) (hr : (rowO (some ⟨b, o, none⟩) 8 Nd.enc c.nodes).ok w) (ht : (bx p 82 (c.tcells (some ⟨b, o, none⟩) cc q)).ok w) : Calls Try.prog 35 [.pointer (some ⟨p, 0, none⟩)].toArray w (PostN (fun _ : Nat => True) (fun x => .slice (some ⟨x, 0, none⟩) c.nodes.length c.nodes.length) (fun x => bx x 23 ((voltages c).flatMap Span.enc)) w) := by
  have hn0 := hF.pos
  have hn60 := hF.le
  have hcl := currents_length c
  refine Calls.enter Try.func35 rfl rfl rfl ?_
  refine C.conseq (A' := St w no [] [needR c (some ⟨b, o, none⟩) cc p q, bx p 82 (c.tcells (some ⟨b, o, none⟩) cc q), rowO (some ⟨b, o, none⟩) 8 Nd.enc c.nodes]) (fun _ e => by subst e; exact St.init _ _ (by have : (needR c (some ⟨b, o, none⟩) cc p q).ok _ := both.ok_iff.2 ⟨ht, hr⟩; simp [this, hr, ht])) ?_
  refine C.seq ?_
  refine C.reg ?_
  refine J.q rfl rfl rfl rfl (Q.assign .c) ?_  -- 0:0 cable.go:133 t2 assign
  refine J.end_ ?_
  refine C.keep (.cons 1 rfl .nil) ?_
  refine C.seq ?_
  refine C.reg ?_
  refine J.q rfl rfl rfl rfl (Q.move (.t 0 rfl)) ?_  -- 1:0 cable.go:134 t8 move
  refine J.q rfl rfl rfl rfl (Q.nilCheck (.t 0 rfl)) ?_  -- 1:1 cable.go:134 t9 nilCheck
  refine J.q rfl rfl rfl rfl (Q.fa 0 Try.underlying82 rfl Try.sizeOf26 rfl rfl (.t 0 rfl)) ?_  -- 1:2 cable.go:134 t10 fieldAddr
  refine J.q rfl rfl rfl rfl (Q.fa 2 Try.underlying26 rfl Try.sizeOf24 rfl rfl (.t 0 rfl)) ?_  -- 1:3 cable.go:134 t11 fieldAddr
  refine J.q rfl rfl rfl rfl (Q.load (.t 0 rfl) Try.isAgg24 (by first | (first | exact ldT 1 0 rfl (by repeat constructor) | exact ldTΦ 1 0 rfl (by repeat constructor) | exact ldT 1 1 rfl (by repeat constructor) | exact ldTΦ 1 1 rfl (by repeat constructor) | exact ldT 1 2 rfl (by repeat constructor) | exact ldTΦ 1 2 rfl (by repeat constructor) | exact ldT 1 3 rfl (by repeat constructor) | exact ldTΦ 1 3 rfl (by repeat constructor) | exact ldT 1 4 rfl (by repeat constructor) | exact ldTΦ 1 4 rfl (by repeat constructor) | exact ldT 1 5 rfl (by repeat constructor) | exact ldTΦ 1 5 rfl (by repeat constructor) | exact ldT 1 6 rfl (by repeat constructor) | exact ldO 0 rfl (by assumption) | exact ldO 1 rfl (by assumption) | exact ldO 2 rfl (by assumption) | exact ldO 3 rfl (by assumption) | exact ldOT 1 0 rfl (by assumption) (by repeat constructor) | exact ldOT 1 1 rfl (by assumption) (by repeat constructor) | exact ldOT 1 2 rfl (by assumption) (by repeat constructor) | exact ldOT 1 3 rfl (by assumption) (by repeat constructor)) | (first | exact ldO1 0 rfl (by assumption) rfl | exact ldO1 1 rfl (by assumption) rfl | exact ldO1 2 rfl (by assumption) rfl | exact ldO1 3 rfl (by assumption) rfl | exact ldO1 4 rfl (by assumption) rfl | exact ldO1 5 rfl (by assumption) rfl | exact ldM1 0 rfl (fun _ => rfl) (by assumption) rfl | exact ldM1 1 rfl (fun _ => rfl) (by assumption) rfl | exact ldM1 2 rfl (fun _ => rfl) (by assumption) rfl | exact ldM1 3 rfl (fun _ => rfl) (by assumption) rfl | exact ldM1 4 rfl (fun _ => rfl) (by assumption) rfl | exact ldM1 5 rfl (fun _ => rfl) (by assumption) rfl))) ?_  -- 1:4 cable.go:134 t12 load
  refine J.q rfl rfl rfl rfl (Q.len Try.underlying24 (.t 0 rfl)) ?_  -- 1:5 cable.go:134 t13 call
  refine J.mkS rfl rfl rfl rfl Try.underlying51 inf23 (by simp) (.t 0 rfl) (.t 0 rfl) (by omega) (by omega) ?_; intro b14 hb14  -- 1:6 cable.go:134 t14 makeSlice
  refine J.q rfl rfl rfl rfl (Q.assign (.t 0 rfl)) ?_  -- 1:7 cable.go:134 t3 assign
  refine J.end_ ?_
  refine C.keep (.cons 0 rfl (.cons 8 rfl .nil)) ?_
  refine C.seq ?_
  refine C.reg ?_
  refine J.q rfl rfl rfl rfl (Q.move (.t 0 rfl)) ?_  -- 2:0 cable.go:135 t15 move
  refine J.q rfl rfl rfl rfl (Q.move (.t 2 rfl)) ?_  -- 2:1 cable.go:135 t16 move
  refine J.q rfl rfl rfl rfl (Q.nilCheck (.t 0 rfl)) ?_  -- 2:2 cable.go:135 t17 nilCheck
  refine J.q rfl rfl rfl rfl (Q.fa 0 Try.underlying82 rfl Try.sizeOf26 rfl rfl (.t 0 rfl)) ?_  -- 2:3 cable.go:135 t18 fieldAddr
  refine J.q rfl rfl rfl rfl (Q.fa 0 Try.underlying26 rfl Try.sizeOf23 rfl rfl (.t 0 rfl)) ?_  -- 2:4 cable.go:135 t19 fieldAddr
  refine J.q rfl rfl rfl rfl (Q.loadsV (.t 0 rfl) ⟨Try.isAgg23, Try.sizeOf23⟩ (by first | (first | exact ldT 2 0 rfl (by repeat constructor) | exact ldTΦ 2 0 rfl (by repeat constructor) | exact ldT 2 1 rfl (by repeat constructor) | exact ldTΦ 2 1 rfl (by repeat constructor) | exact ldT 2 2 rfl (by repeat constructor) | exact ldTΦ 2 2 rfl (by repeat constructor) | exact ldT 2 3 rfl (by repeat constructor) | exact ldTΦ 2 3 rfl (by repeat constructor) | exact ldT 2 4 rfl (by repeat constructor) | exact ldTΦ 2 4 rfl (by repeat constructor) | exact ldT 2 5 rfl (by repeat constructor) | exact ldTΦ 2 5 rfl (by repeat constructor) | exact ldT 2 6 rfl (by repeat constructor) | exact ldO 0 rfl (by assumption) | exact ldO 1 rfl (by assumption) | exact ldO 2 rfl (by assumption) | exact ldO 3 rfl (by assumption) | exact ldOT 2 0 rfl (by assumption) (by repeat constructor) | exact ldOT 2 1 rfl (by assumption) (by repeat constructor) | exact ldOT 2 2 rfl (by assumption) (by repeat constructor) | exact ldOT 2 3 rfl (by assumption) (by repeat constructor)) | (first | exact ldO1 0 rfl (by assumption) rfl | exact ldO1 1 rfl (by assumption) rfl | exact ldO1 2 rfl (by assumption) rfl | exact ldO1 3 rfl (by assumption) rfl | exact ldO1 4 rfl (by assumption) rfl | exact ldO1 5 rfl (by assumption) rfl | exact ldM1 0 rfl (fun _ => rfl) (by assumption) rfl | exact ldM1 1 rfl (fun _ => rfl) (by assumption) rfl | exact ldM1 2 rfl (fun _ => rfl) (by assumption) rfl | exact ldM1 3 rfl (fun _ => rfl) (by assumption) rfl | exact ldM1 4 rfl (fun _ => rfl) (by assumption) rfl | exact ldM1 5 rfl (fun _ => rfl) (by assumption) rfl)) rfl) ?_  -- 2:5 cable.go:135 t20 load
  refine J.q rfl rfl rfl rfl (Q.indexAddr Try.underlying51 Try.sizeOf23 (.t 5 rfl) .c (by omega)) ?_  -- 2:6 cable.go:135 t21 indexAddr
  refine J.conseq (A' := St w no [bx b14 23 ((List.replicate c.nodes.length (⟨0, 0⟩ : Span)).flatMap Span.enc)] [needR c (some ⟨b, o, none⟩) cc p q, bx p 82 (c.tcells (some ⟨b, o, none⟩) cc q), rowO (some ⟨b, o, none⟩) 8 Nd.enc c.nodes]) (fun _ h => by rw [← flat_repS]; exact h) ?_
  refine J.s rfl rfl rfl (S.storeR (enc := Span.enc) (e := c.supply) (.t 0 rfl) (.t 1 rfl) Try.sizeOf23 (fun _ => rfl) rfl rfl (by (first | exact Nd.enc_one _ | (first | exact Span.enc_one _ | ((intro u hu; simp at hu; first | done | ((repeat' (rcases hu with rfl | hu)) <;> (try subst hu) <;> rfl)))))) (by (repeat (first | exact Upd.here | apply Upd.there))) (by simp; omega)) ?_
  refine J.end_ ?_
  refine C.keep (.cons 7 rfl (.cons 8 rfl .nil)) ?_
  refine C.seq ?_
  refine C.seq ?_
  refine C.reg ?_
  refine J.q rfl rfl rfl rfl (Q.move (.t 1 rfl)) ?_  -- 3:0 cable.go:136 t22 move
  refine J.callN rfl rfl rfl rfl (run_static Try.call55 .f (.cons (.t 0 rfl) .nil) rfl) (fun w hA => currents_calls w c b o cc p q hF (hA.ok (r := rowO (some ⟨b, o, none⟩) 8 Nd.enc c.nodes) 2 rfl) (hA.ok (r := bx p 82 (c.tcells (some ⟨b, o, none⟩) cc q)) 1 rfl)) ?_  -- 3:1 cable.go:136 t23 call
  intro x _
  refine J.q rfl rfl rfl rfl (Q.len Try.underlying51 (.t 0 rfl)) ?_  -- 3:2 cable.go:136 t24 call
  refine J.q rfl rfl rfl rfl (Q.move .c) ?_  -- 3:3 cable.go:136 t25 move
  refine J.end_ ?_
  refine C.keep (.cons 0 rfl (.cons 1 rfl (.cons 2 rfl (.cons 4 rfl (.cons 5 rfl .nil))))) ?_
  refine C.block ?_
  refine C.loop_1 (fun g => .int .i64 (g.1.1 : Int)) (G := { g : Nat × List Span // g.1 ≤ c.nodes.length ∧ g.2 = voltUpto c g.1 ∧ g.2.length = c.nodes.length }) (fun g => St w no [bx x 23 ((currents c).flatMap Span.enc), bx b14 23 (g.1.2.flatMap Span.enc)] [needR c (some ⟨b, o, none⟩) cc p q, bx p 82 (c.tcells (some ⟨b, o, none⟩) cc q), rowO (some ⟨b, o, none⟩) 8 Nd.enc c.nodes]) (fun g => c.nodes.length - g.1.1) (⟨(0, (List.replicate c.nodes.length ⟨0, 0⟩).set 0 c.supply), by simp, rfl, by simp⟩) (by (first | rfl | (simp; done))) ?_ ?_
  ·
    (exact fun _ h => h)
  ·
    rintro ⟨⟨k, out⟩, hk, hs, hl⟩
    dsimp only
    dsimp only at hk hs hl
    refine C.seq ?_
    refine C.reg ?_
    refine J.q rfl rfl rfl rfl (Q.lss (.t 0 rfl) (.t 1 rfl)) ?_  -- 4:0 cable.go:136 t26 binOp
    refine J.end_ ?_
    refine C.seq ?_
    refine C.cond (.t 0 rfl) (fun c0 => ?_) (fun c0 => ?_)  -- cond 0
    ·
      simp only [decide_eq_true_eq, decide_eq_false_iff_not, Bool.and_eq_true, Bool.or_eq_true, Bool.and_eq_false_iff, Bool.or_eq_false_iff, Bool.not_eq_true', Bool.not_eq_false', beq_iff_eq, bne_iff_ne, Int.not_lt, Int.not_le, Decidable.not_not, ne_eq] at c0
      have hlt : k < c.nodes.length := by omega
      obtain ⟨i, hix⟩ := get_lt (xs := currents c) (i := k) (by omega)
      refine C.skip ?_
      refine X.go ?_
      refine C.keep (.cons 1 rfl (.cons 2 rfl (.cons 3 rfl (.cons 4 rfl (.cons 5 rfl .nil))))) ?_
      refine C.seq ?_
      refine C.block ?_
      refine C.seq ?_
      refine C.reg ?_
      refine J.q rfl rfl rfl rfl (Q.move (.t 0 rfl)) ?_  -- 5:0 cable.go:136 t27 move
      refine J.q rfl rfl rfl rfl (Q.indexAddr Try.underlying51 Try.sizeOf23 (.t 3 rfl) (.t 1 rfl) (by omega)) ?_  -- 5:1 cable.go:136 t28 indexAddr
      refine J.q rfl rfl rfl rfl (Q.loadsV (.t 0 rfl) ⟨Try.isAgg23, Try.sizeOf23⟩ (by exact ldMO 0 rfl (fun _ => rfl) hix) rfl) ?_  -- 5:2 cable.go:136 t29 load
      refine J.alloc rfl rfl rfl rfl Try.zeroValue23 rfl ?_; intro b5 hb5  -- 5:3 cable.go:136 t5 alloc
      refine J.q rfl rfl rfl rfl (Q.assign (.t 3 rfl)) ?_  -- 5:4 cable.go:136 t4 assign
      refine J.s rfl rfl rfl (S.storeP (.t 1 rfl) (.t 2 rfl) Try.sizeOf23 rfl rfl (by (first | exact Nd.enc_one _ | (first | exact Span.enc_one _ | ((intro u hu; simp at hu; first | done | ((repeat' (rcases hu with rfl | hu)) <;> (try subst hu) <;> rfl)))))) (by (repeat (first | exact Upd.here | apply Upd.there))) (by (repeat constructor); done)) ?_  -- 5:5 cable.go:136 tNone store
      refine J.end_ ?_
      refine C.keep (.cons 0 rfl (.cons 1 rfl (.cons 5 rfl (.cons 6 rfl (.cons 7 rfl (.cons 8 rfl (.cons 9 rfl .nil))))))) ?_
      refine C.seq ?_
      refine C.seq ?_
      refine C.reg ?_
      refine J.q rfl rfl rfl rfl (Q.move (.t 0 rfl)) ?_  -- 6:0 cable.go:137 t30 move
      refine J.q rfl rfl rfl rfl (Q.eql (.t 0 rfl) .c) ?_  -- 6:1 cable.go:137 t31 binOp
      refine J.end_ ?_
      refine C.keep (.cons 0 rfl (.cons 2 rfl (.cons 3 rfl (.cons 4 rfl (.cons 5 rfl (.cons 6 rfl (.cons 7 rfl (.cons 8 rfl .nil)))))))) ?_
      refine C.cond (.t 0 rfl) (fun c1 => ?_) (fun c1 => ?_)  -- cond 1
      ·
        simp only [decide_eq_true_eq, decide_eq_false_iff_not, Bool.and_eq_true, Bool.or_eq_true, Bool.and_eq_false_iff, Bool.or_eq_false_iff, Bool.not_eq_true', Bool.not_eq_false', beq_iff_eq, bne_iff_ne, Int.not_lt, Int.not_le, Decidable.not_not, ne_eq] at c1
        obtain rfl : k = 0 := by omega
        refine C.exit ?_
        refine X.thenExit ?_
        refine X.inHit ?_
        refine X.go ?_
        refine C.keep (.cons 3 rfl (.cons 4 rfl (.cons 5 rfl (.cons 6 rfl (.cons 7 rfl .nil))))) ?_
        refine C.reg ?_
        refine J.q rfl rfl rfl rfl (Q.add (.t 0 rfl) .c (by omega)) ?_  -- 10:0 cable.go:136 t70 binOp
        refine J.keep (.cons 0 rfl (.cons 2 rfl (.cons 3 rfl (.cons 4 rfl (.cons 5 rfl .nil))))) ?_
        refine J.q rfl rfl rfl rfl (Q.move (.t 0 rfl)) ?_  -- 10:1 cable.go:136 t25 move
        refine J.done ?_
        refine X.nx (⟨(0 + 1, out), by simp only; omega, hs, hl⟩) (.cons 0 (by (first | rfl | (simp; done))) (.cons 2 (by (first | rfl | (simp; done))) (.cons 3 (by (first | rfl | (simp; done))) (.cons 4 (by (first | rfl | (simp; done))) (.cons 5 (by (first | rfl | (simp; done))) .nil))))) ?_ ?_
        ·
          exact fun _ h => h.dropM
        ·
          simp; omega
      ·
        simp only [decide_eq_true_eq, decide_eq_false_iff_not, Bool.and_eq_true, Bool.or_eq_true, Bool.and_eq_false_iff, Bool.or_eq_false_iff, Bool.not_eq_true', Bool.not_eq_false', beq_iff_eq, bne_iff_ne, Int.not_lt, Int.not_le, Decidable.not_not, ne_eq] at c1
        obtain ⟨n, hx⟩ := get_lt hlt
        have hng := Nd.good_props (hF.good k n hx)
        have hnp := hng.2.1 (by omega)
        obtain ⟨v, hv⟩ := get_lt (xs := out) (i := n.parent.toNat) (by omega)
        have hvb := volt_bound hF k (by omega) v (by rw [← hs]; exact List.mem_of_getElem? hv)
        have hib := cur_bound hF i (List.mem_of_getElem? hix)
        have h1 := mulb (a := i.hi) (b := n.ohms.hi) (A := 235929600) (B := 16777216) (by omega) (by omega)
        have h2 := mulb (a := i.lo) (b := n.ohms.lo) (A := 235929600) (B := 16777216) (by omega) (by omega)
        refine C.skip ?_
        refine X.go ?_
        refine C.keep (.cons 1 rfl (.cons 2 rfl (.cons 3 rfl (.cons 4 rfl (.cons 5 rfl (.cons 6 rfl (.cons 7 rfl .nil))))))) ?_
        refine C.seq ?_
        refine C.reg ?_
        refine J.q rfl rfl rfl rfl (Q.move (.t 6 rfl)) ?_  -- 7:0 cable.go:140 t32 move
        refine J.q rfl rfl rfl rfl (Q.nilCheck (.t 0 rfl)) ?_  -- 7:1 cable.go:140 t33 nilCheck
        refine J.q rfl rfl rfl rfl (Q.fa 0 Try.underlying82 rfl Try.sizeOf26 rfl rfl (.t 0 rfl)) ?_  -- 7:2 cable.go:140 t34 fieldAddr
        refine J.q rfl rfl rfl rfl (Q.fa 2 Try.underlying26 rfl Try.sizeOf24 rfl rfl (.t 0 rfl)) ?_  -- 7:3 cable.go:140 t35 fieldAddr
        refine J.q rfl rfl rfl rfl (Q.load (.t 0 rfl) Try.isAgg24 (by first | (first | exact ldT 1 0 rfl (by repeat constructor) | exact ldTΦ 1 0 rfl (by repeat constructor) | exact ldT 1 1 rfl (by repeat constructor) | exact ldTΦ 1 1 rfl (by repeat constructor) | exact ldT 1 2 rfl (by repeat constructor) | exact ldTΦ 1 2 rfl (by repeat constructor) | exact ldT 1 3 rfl (by repeat constructor) | exact ldTΦ 1 3 rfl (by repeat constructor) | exact ldT 1 4 rfl (by repeat constructor) | exact ldTΦ 1 4 rfl (by repeat constructor) | exact ldT 1 5 rfl (by repeat constructor) | exact ldTΦ 1 5 rfl (by repeat constructor) | exact ldT 1 6 rfl (by repeat constructor) | exact ldO 0 rfl (by assumption) | exact ldO 1 rfl (by assumption) | exact ldO 2 rfl (by assumption) | exact ldO 3 rfl (by assumption) | exact ldOT 1 0 rfl (by assumption) (by repeat constructor) | exact ldOT 1 1 rfl (by assumption) (by repeat constructor) | exact ldOT 1 2 rfl (by assumption) (by repeat constructor) | exact ldOT 1 3 rfl (by assumption) (by repeat constructor)) | (first | exact ldO1 0 rfl (by assumption) rfl | exact ldO1 1 rfl (by assumption) rfl | exact ldO1 2 rfl (by assumption) rfl | exact ldO1 3 rfl (by assumption) rfl | exact ldO1 4 rfl (by assumption) rfl | exact ldO1 5 rfl (by assumption) rfl | exact ldM1 0 rfl (fun _ => rfl) (by assumption) rfl | exact ldM1 1 rfl (fun _ => rfl) (by assumption) rfl | exact ldM1 2 rfl (fun _ => rfl) (by assumption) rfl | exact ldM1 3 rfl (fun _ => rfl) (by assumption) rfl | exact ldM1 4 rfl (fun _ => rfl) (by assumption) rfl | exact ldM1 5 rfl (fun _ => rfl) (by assumption) rfl))) ?_  -- 7:4 cable.go:140 t36 load
        refine J.q rfl rfl rfl rfl (Q.move (.t 5 rfl)) ?_  -- 7:5 cable.go:140 t37 move
        refine J.q rfl rfl rfl rfl (Q.indexAddr Try.underlying24 Try.sizeOf40 (.t 1 rfl) (.t 0 rfl) (by omega)) ?_  -- 7:6 cable.go:140 t38 indexAddr
        refine J.q rfl rfl rfl rfl (Q.loadsV (.t 0 rfl) ⟨Try.isAgg40, Try.sizeOf40⟩ (by exact ldO 2 rfl hx) rfl) ?_  -- 7:7 cable.go:140 t39 load
        refine J.alloc rfl rfl rfl rfl Try.zeroValue40 rfl ?_; intro b6 hb6  -- 7:8 cable.go:140 t6 alloc
        refine J.s rfl rfl rfl (S.storeP (.t 0 rfl) (.t 1 rfl) Try.sizeOf40 rfl rfl (by (first | exact Nd.enc_one _ | (first | exact Span.enc_one _ | ((intro u hu; simp at hu; first | done | ((repeat' (rcases hu with rfl | hu)) <;> (try subst hu) <;> rfl)))))) (by (repeat (first | exact Upd.here | apply Upd.there))) (by (repeat constructor); done)) ?_  -- 7:9 cable.go:140 tNone store
        refine J.end_ ?_
        refine C.keep (.cons 0 rfl (.cons 9 rfl (.cons 10 rfl (.cons 11 rfl (.cons 12 rfl (.cons 13 rfl (.cons 14 rfl (.cons 15 rfl .nil)))))))) ?_
        refine C.seq ?_
        refine C.reg ?_
        refine J.q rfl rfl rfl rfl (Q.move (.t 6 rfl)) ?_  -- 8:0 cable.go:141 t40 move
        refine J.q rfl rfl rfl rfl (Q.fa0 0 Try.underlying40 rfl Try.sizeOf3 rfl rfl (.t 1 rfl)) ?_  -- 8:1 cable.go:141 t41 fieldAddr
        refine J.q rfl rfl rfl rfl (Q.load (.t 0 rfl) Try.isAgg3 (by first | (first | exact ldT 1 0 rfl (by repeat constructor) | exact ldTΦ 1 0 rfl (by repeat constructor) | exact ldT 1 1 rfl (by repeat constructor) | exact ldTΦ 1 1 rfl (by repeat constructor) | exact ldT 1 2 rfl (by repeat constructor) | exact ldTΦ 1 2 rfl (by repeat constructor) | exact ldT 1 3 rfl (by repeat constructor) | exact ldTΦ 1 3 rfl (by repeat constructor) | exact ldT 1 4 rfl (by repeat constructor) | exact ldTΦ 1 4 rfl (by repeat constructor) | exact ldT 1 5 rfl (by repeat constructor) | exact ldTΦ 1 5 rfl (by repeat constructor) | exact ldT 1 6 rfl (by repeat constructor) | exact ldO 0 rfl (by assumption) | exact ldO 1 rfl (by assumption) | exact ldO 2 rfl (by assumption) | exact ldO 3 rfl (by assumption) | exact ldOT 1 0 rfl (by assumption) (by repeat constructor) | exact ldOT 1 1 rfl (by assumption) (by repeat constructor) | exact ldOT 1 2 rfl (by assumption) (by repeat constructor) | exact ldOT 1 3 rfl (by assumption) (by repeat constructor)) | (first | exact ldO1 0 rfl (by assumption) rfl | exact ldO1 1 rfl (by assumption) rfl | exact ldO1 2 rfl (by assumption) rfl | exact ldO1 3 rfl (by assumption) rfl | exact ldO1 4 rfl (by assumption) rfl | exact ldO1 5 rfl (by assumption) rfl | exact ldM1 0 rfl (fun _ => rfl) (by assumption) rfl | exact ldM1 1 rfl (fun _ => rfl) (by assumption) rfl | exact ldM1 2 rfl (fun _ => rfl) (by assumption) rfl | exact ldM1 3 rfl (fun _ => rfl) (by assumption) rfl | exact ldM1 4 rfl (fun _ => rfl) (by assumption) rfl | exact ldM1 5 rfl (fun _ => rfl) (by assumption) rfl))) ?_  -- 8:2 cable.go:141 t42 load
        refine J.q rfl rfl rfl rfl (Q.indexAddr Try.underlying51 Try.sizeOf23 (.t 2 rfl) (.t 0 rfl) (by omega)) ?_  -- 8:3 cable.go:141 t43 indexAddr
        refine J.q rfl rfl rfl rfl (Q.loadsV (.t 0 rfl) ⟨Try.isAgg23, Try.sizeOf23⟩ (by exact ldMO 3 rfl (fun _ => rfl) hv) rfl) ?_  -- 8:4 cable.go:141 t44 load
        refine J.alloc rfl rfl rfl rfl Try.zeroValue23 rfl ?_; intro b7 hb7  -- 8:5 cable.go:141 t7 alloc
        refine J.s rfl rfl rfl (S.storeP (.t 0 rfl) (.t 1 rfl) Try.sizeOf23 rfl rfl (by (first | exact Nd.enc_one _ | (first | exact Span.enc_one _ | ((intro u hu; simp at hu; first | done | ((repeat' (rcases hu with rfl | hu)) <;> (try subst hu) <;> rfl)))))) (by (repeat (first | exact Upd.here | apply Upd.there))) (by (repeat constructor); done)) ?_  -- 8:6 cable.go:141 tNone store
        refine J.end_ ?_
        refine C.keep (.cons 0 rfl (.cons 6 rfl (.cons 7 rfl (.cons 8 rfl (.cons 9 rfl (.cons 10 rfl (.cons 11 rfl (.cons 12 rfl (.cons 13 rfl .nil))))))))) ?_
        refine C.reg ?_
        refine J.q rfl rfl rfl rfl (Q.move (.t 7 rfl)) ?_  -- 9:0 cable.go:142 t45 move
        refine J.q rfl rfl rfl rfl (Q.move (.t 3 rfl)) ?_  -- 9:1 cable.go:142 t46 move
        refine J.q rfl rfl rfl rfl (Q.fa0 0 Try.underlying23 rfl Try.sizeOf2 rfl rfl (.t 2 rfl)) ?_  -- 9:2 cable.go:142 t47 fieldAddr
        refine J.q rfl rfl rfl rfl (Q.load (.t 0 rfl) Try.isAgg2 (by first | (first | exact ldT 1 0 rfl (by repeat constructor) | exact ldTΦ 1 0 rfl (by repeat constructor) | exact ldT 1 1 rfl (by repeat constructor) | exact ldTΦ 1 1 rfl (by repeat constructor) | exact ldT 1 2 rfl (by repeat constructor) | exact ldTΦ 1 2 rfl (by repeat constructor) | exact ldT 1 3 rfl (by repeat constructor) | exact ldTΦ 1 3 rfl (by repeat constructor) | exact ldT 1 4 rfl (by repeat constructor) | exact ldTΦ 1 4 rfl (by repeat constructor) | exact ldT 1 5 rfl (by repeat constructor) | exact ldTΦ 1 5 rfl (by repeat constructor) | exact ldT 1 6 rfl (by repeat constructor) | exact ldO 0 rfl (by assumption) | exact ldO 1 rfl (by assumption) | exact ldO 2 rfl (by assumption) | exact ldO 3 rfl (by assumption) | exact ldOT 1 0 rfl (by assumption) (by repeat constructor) | exact ldOT 1 1 rfl (by assumption) (by repeat constructor) | exact ldOT 1 2 rfl (by assumption) (by repeat constructor) | exact ldOT 1 3 rfl (by assumption) (by repeat constructor)) | (first | exact ldO1 0 rfl (by assumption) rfl | exact ldO1 1 rfl (by assumption) rfl | exact ldO1 2 rfl (by assumption) rfl | exact ldO1 3 rfl (by assumption) rfl | exact ldO1 4 rfl (by assumption) rfl | exact ldO1 5 rfl (by assumption) rfl | exact ldM1 0 rfl (fun _ => rfl) (by assumption) rfl | exact ldM1 1 rfl (fun _ => rfl) (by assumption) rfl | exact ldM1 2 rfl (fun _ => rfl) (by assumption) rfl | exact ldM1 3 rfl (fun _ => rfl) (by assumption) rfl | exact ldM1 4 rfl (fun _ => rfl) (by assumption) rfl | exact ldM1 5 rfl (fun _ => rfl) (by assumption) rfl))) ?_  -- 9:3 cable.go:142 t48 load
        refine J.q rfl rfl rfl rfl (Q.fa0 1 Try.underlying23 rfl Try.sizeOf2 rfl rfl (.t 7 rfl)) ?_  -- 9:4 cable.go:142 t49 fieldAddr
        refine J.q rfl rfl rfl rfl (Q.load (.t 0 rfl) Try.isAgg2 (by first | (first | exact ldT 1 0 rfl (by repeat constructor) | exact ldTΦ 1 0 rfl (by repeat constructor) | exact ldT 1 1 rfl (by repeat constructor) | exact ldTΦ 1 1 rfl (by repeat constructor) | exact ldT 1 2 rfl (by repeat constructor) | exact ldTΦ 1 2 rfl (by repeat constructor) | exact ldT 1 3 rfl (by repeat constructor) | exact ldTΦ 1 3 rfl (by repeat constructor) | exact ldT 1 4 rfl (by repeat constructor) | exact ldTΦ 1 4 rfl (by repeat constructor) | exact ldT 1 5 rfl (by repeat constructor) | exact ldTΦ 1 5 rfl (by repeat constructor) | exact ldT 1 6 rfl (by repeat constructor) | exact ldO 0 rfl (by assumption) | exact ldO 1 rfl (by assumption) | exact ldO 2 rfl (by assumption) | exact ldO 3 rfl (by assumption) | exact ldOT 1 0 rfl (by assumption) (by repeat constructor) | exact ldOT 1 1 rfl (by assumption) (by repeat constructor) | exact ldOT 1 2 rfl (by assumption) (by repeat constructor) | exact ldOT 1 3 rfl (by assumption) (by repeat constructor)) | (first | exact ldO1 0 rfl (by assumption) rfl | exact ldO1 1 rfl (by assumption) rfl | exact ldO1 2 rfl (by assumption) rfl | exact ldO1 3 rfl (by assumption) rfl | exact ldO1 4 rfl (by assumption) rfl | exact ldO1 5 rfl (by assumption) rfl | exact ldM1 0 rfl (fun _ => rfl) (by assumption) rfl | exact ldM1 1 rfl (fun _ => rfl) (by assumption) rfl | exact ldM1 2 rfl (fun _ => rfl) (by assumption) rfl | exact ldM1 3 rfl (fun _ => rfl) (by assumption) rfl | exact ldM1 4 rfl (fun _ => rfl) (by assumption) rfl | exact ldM1 5 rfl (fun _ => rfl) (by assumption) rfl))) ?_  -- 9:5 cable.go:142 t50 load
        refine J.q rfl rfl rfl rfl (Q.fa0 1 Try.underlying40 rfl Try.sizeOf23 rfl rfl (.t 7 rfl)) ?_  -- 9:6 cable.go:142 t51 fieldAddr
        refine J.q rfl rfl rfl rfl (Q.fa 1 Try.underlying23 rfl Try.sizeOf2 rfl rfl (.t 0 rfl)) ?_  -- 9:7 cable.go:142 t52 fieldAddr
        refine J.q rfl rfl rfl rfl (Q.load (.t 0 rfl) Try.isAgg2 (by first | (first | exact ldT 1 0 rfl (by repeat constructor) | exact ldTΦ 1 0 rfl (by repeat constructor) | exact ldT 1 1 rfl (by repeat constructor) | exact ldTΦ 1 1 rfl (by repeat constructor) | exact ldT 1 2 rfl (by repeat constructor) | exact ldTΦ 1 2 rfl (by repeat constructor) | exact ldT 1 3 rfl (by repeat constructor) | exact ldTΦ 1 3 rfl (by repeat constructor) | exact ldT 1 4 rfl (by repeat constructor) | exact ldTΦ 1 4 rfl (by repeat constructor) | exact ldT 1 5 rfl (by repeat constructor) | exact ldTΦ 1 5 rfl (by repeat constructor) | exact ldT 1 6 rfl (by repeat constructor) | exact ldO 0 rfl (by assumption) | exact ldO 1 rfl (by assumption) | exact ldO 2 rfl (by assumption) | exact ldO 3 rfl (by assumption) | exact ldOT 1 0 rfl (by assumption) (by repeat constructor) | exact ldOT 1 1 rfl (by assumption) (by repeat constructor) | exact ldOT 1 2 rfl (by assumption) (by repeat constructor) | exact ldOT 1 3 rfl (by assumption) (by repeat constructor)) | (first | exact ldO1 0 rfl (by assumption) rfl | exact ldO1 1 rfl (by assumption) rfl | exact ldO1 2 rfl (by assumption) rfl | exact ldO1 3 rfl (by assumption) rfl | exact ldO1 4 rfl (by assumption) rfl | exact ldO1 5 rfl (by assumption) rfl | exact ldM1 0 rfl (fun _ => rfl) (by assumption) rfl | exact ldM1 1 rfl (fun _ => rfl) (by assumption) rfl | exact ldM1 2 rfl (fun _ => rfl) (by assumption) rfl | exact ldM1 3 rfl (fun _ => rfl) (by assumption) rfl | exact ldM1 4 rfl (fun _ => rfl) (by assumption) rfl | exact ldM1 5 rfl (fun _ => rfl) (by assumption) rfl))) ?_  -- 9:8 cable.go:142 t53 load
        refine J.q rfl rfl rfl rfl (Q.mul (.t 3 rfl) (.t 0 rfl) (by omega)) ?_  -- 9:9 cable.go:142 t54 binOp
        refine J.q rfl rfl rfl rfl (Q.add (.t 0 rfl) .c (by omega)) ?_  -- 9:10 cable.go:142 t55 binOp
        refine J.q rfl rfl rfl rfl (Q.quo (.t 0 rfl) .c (by omega)) ?_  -- 9:11 cable.go:142 t56 binOp
        refine J.q rfl rfl rfl rfl (Q.sub (.t 8 rfl) (.t 0 rfl) (by omega)) ?_  -- 9:12 cable.go:142 t57 binOp
        refine J.q rfl rfl rfl rfl (Q.fa0 1 Try.underlying23 rfl Try.sizeOf2 rfl rfl (.t 13 rfl)) ?_  -- 9:13 cable.go:142 t58 fieldAddr
        refine J.q rfl rfl rfl rfl (Q.load (.t 0 rfl) Try.isAgg2 (by first | (first | exact ldT 1 0 rfl (by repeat constructor) | exact ldTΦ 1 0 rfl (by repeat constructor) | exact ldT 1 1 rfl (by repeat constructor) | exact ldTΦ 1 1 rfl (by repeat constructor) | exact ldT 1 2 rfl (by repeat constructor) | exact ldTΦ 1 2 rfl (by repeat constructor) | exact ldT 1 3 rfl (by repeat constructor) | exact ldTΦ 1 3 rfl (by repeat constructor) | exact ldT 1 4 rfl (by repeat constructor) | exact ldTΦ 1 4 rfl (by repeat constructor) | exact ldT 1 5 rfl (by repeat constructor) | exact ldTΦ 1 5 rfl (by repeat constructor) | exact ldT 1 6 rfl (by repeat constructor) | exact ldO 0 rfl (by assumption) | exact ldO 1 rfl (by assumption) | exact ldO 2 rfl (by assumption) | exact ldO 3 rfl (by assumption) | exact ldOT 1 0 rfl (by assumption) (by repeat constructor) | exact ldOT 1 1 rfl (by assumption) (by repeat constructor) | exact ldOT 1 2 rfl (by assumption) (by repeat constructor) | exact ldOT 1 3 rfl (by assumption) (by repeat constructor)) | (first | exact ldO1 0 rfl (by assumption) rfl | exact ldO1 1 rfl (by assumption) rfl | exact ldO1 2 rfl (by assumption) rfl | exact ldO1 3 rfl (by assumption) rfl | exact ldO1 4 rfl (by assumption) rfl | exact ldO1 5 rfl (by assumption) rfl | exact ldM1 0 rfl (fun _ => rfl) (by assumption) rfl | exact ldM1 1 rfl (fun _ => rfl) (by assumption) rfl | exact ldM1 2 rfl (fun _ => rfl) (by assumption) rfl | exact ldM1 3 rfl (fun _ => rfl) (by assumption) rfl | exact ldM1 4 rfl (fun _ => rfl) (by assumption) rfl | exact ldM1 5 rfl (fun _ => rfl) (by assumption) rfl))) ?_  -- 9:14 cable.go:142 t59 load
        refine J.q rfl rfl rfl rfl (Q.fa0 0 Try.underlying23 rfl Try.sizeOf2 rfl rfl (.t 18 rfl)) ?_  -- 9:15 cable.go:142 t60 fieldAddr
        refine J.q rfl rfl rfl rfl (Q.load (.t 0 rfl) Try.isAgg2 (by first | (first | exact ldT 1 0 rfl (by repeat constructor) | exact ldTΦ 1 0 rfl (by repeat constructor) | exact ldT 1 1 rfl (by repeat constructor) | exact ldTΦ 1 1 rfl (by repeat constructor) | exact ldT 1 2 rfl (by repeat constructor) | exact ldTΦ 1 2 rfl (by repeat constructor) | exact ldT 1 3 rfl (by repeat constructor) | exact ldTΦ 1 3 rfl (by repeat constructor) | exact ldT 1 4 rfl (by repeat constructor) | exact ldTΦ 1 4 rfl (by repeat constructor) | exact ldT 1 5 rfl (by repeat constructor) | exact ldTΦ 1 5 rfl (by repeat constructor) | exact ldT 1 6 rfl (by repeat constructor) | exact ldO 0 rfl (by assumption) | exact ldO 1 rfl (by assumption) | exact ldO 2 rfl (by assumption) | exact ldO 3 rfl (by assumption) | exact ldOT 1 0 rfl (by assumption) (by repeat constructor) | exact ldOT 1 1 rfl (by assumption) (by repeat constructor) | exact ldOT 1 2 rfl (by assumption) (by repeat constructor) | exact ldOT 1 3 rfl (by assumption) (by repeat constructor)) | (first | exact ldO1 0 rfl (by assumption) rfl | exact ldO1 1 rfl (by assumption) rfl | exact ldO1 2 rfl (by assumption) rfl | exact ldO1 3 rfl (by assumption) rfl | exact ldO1 4 rfl (by assumption) rfl | exact ldO1 5 rfl (by assumption) rfl | exact ldM1 0 rfl (fun _ => rfl) (by assumption) rfl | exact ldM1 1 rfl (fun _ => rfl) (by assumption) rfl | exact ldM1 2 rfl (fun _ => rfl) (by assumption) rfl | exact ldM1 3 rfl (fun _ => rfl) (by assumption) rfl | exact ldM1 4 rfl (fun _ => rfl) (by assumption) rfl | exact ldM1 5 rfl (fun _ => rfl) (by assumption) rfl))) ?_  -- 9:16 cable.go:142 t61 load
        refine J.q rfl rfl rfl rfl (Q.fa0 1 Try.underlying40 rfl Try.sizeOf23 rfl rfl (.t 18 rfl)) ?_  -- 9:17 cable.go:142 t62 fieldAddr
        refine J.q rfl rfl rfl rfl (Q.fa 0 Try.underlying23 rfl Try.sizeOf2 rfl rfl (.t 0 rfl)) ?_  -- 9:18 cable.go:142 t63 fieldAddr
        refine J.q rfl rfl rfl rfl (Q.load (.t 0 rfl) Try.isAgg2 (by first | (first | exact ldT 1 0 rfl (by repeat constructor) | exact ldTΦ 1 0 rfl (by repeat constructor) | exact ldT 1 1 rfl (by repeat constructor) | exact ldTΦ 1 1 rfl (by repeat constructor) | exact ldT 1 2 rfl (by repeat constructor) | exact ldTΦ 1 2 rfl (by repeat constructor) | exact ldT 1 3 rfl (by repeat constructor) | exact ldTΦ 1 3 rfl (by repeat constructor) | exact ldT 1 4 rfl (by repeat constructor) | exact ldTΦ 1 4 rfl (by repeat constructor) | exact ldT 1 5 rfl (by repeat constructor) | exact ldTΦ 1 5 rfl (by repeat constructor) | exact ldT 1 6 rfl (by repeat constructor) | exact ldO 0 rfl (by assumption) | exact ldO 1 rfl (by assumption) | exact ldO 2 rfl (by assumption) | exact ldO 3 rfl (by assumption) | exact ldOT 1 0 rfl (by assumption) (by repeat constructor) | exact ldOT 1 1 rfl (by assumption) (by repeat constructor) | exact ldOT 1 2 rfl (by assumption) (by repeat constructor) | exact ldOT 1 3 rfl (by assumption) (by repeat constructor)) | (first | exact ldO1 0 rfl (by assumption) rfl | exact ldO1 1 rfl (by assumption) rfl | exact ldO1 2 rfl (by assumption) rfl | exact ldO1 3 rfl (by assumption) rfl | exact ldO1 4 rfl (by assumption) rfl | exact ldO1 5 rfl (by assumption) rfl | exact ldM1 0 rfl (fun _ => rfl) (by assumption) rfl | exact ldM1 1 rfl (fun _ => rfl) (by assumption) rfl | exact ldM1 2 rfl (fun _ => rfl) (by assumption) rfl | exact ldM1 3 rfl (fun _ => rfl) (by assumption) rfl | exact ldM1 4 rfl (fun _ => rfl) (by assumption) rfl | exact ldM1 5 rfl (fun _ => rfl) (by assumption) rfl))) ?_  -- 9:19 cable.go:142 t64 load
        refine J.q rfl rfl rfl rfl (Q.mul (.t 3 rfl) (.t 0 rfl) (by omega)) ?_  -- 9:20 cable.go:142 t65 binOp
        refine J.q rfl rfl rfl rfl (Q.quo (.t 0 rfl) .c (by omega)) ?_  -- 9:21 cable.go:142 t66 binOp
        refine J.q rfl rfl rfl rfl (Q.sub (.t 7 rfl) (.t 0 rfl) (by omega)) ?_  -- 9:22 cable.go:142 t67 binOp
        refine J.q rfl rfl rfl rfl (Q.buildB stb23 (ps := [(0, _), (1, _)]) (.cons (.t 10 rfl) (.cons (.t 0 rfl) .nil)) rfl (by (repeat (first | exact Bd.nil | (apply Bd.cons rfl rfl rfl (by (repeat constructor); done)))); done)) ?_  -- 9:23 cable.go:142 t68 build
        refine J.q rfl rfl rfl rfl (Q.indexAddr Try.underlying51 Try.sizeOf23 (.t 23 rfl) (.t 22 rfl) (by omega)) ?_  -- 9:24 cable.go:142 t69 indexAddr
        refine J.s rfl rfl rfl (S.storeR (enc := Span.enc) (e := (⟨v.lo - (i.hi * n.ohms.hi + 999) / 1000, v.hi - i.lo * n.ohms.lo / 1000⟩ : Span)) (.t 0 rfl) (.t 1 rfl) Try.sizeOf23 (fun _ => rfl) rfl rfl (by (first | exact Nd.enc_one _ | (first | exact Span.enc_one _ | ((intro u hu; simp at hu; first | done | ((repeat' (rcases hu with rfl | hu)) <;> (try subst hu) <;> rfl)))))) (by (repeat (first | exact Upd.here | apply Upd.there))) (by omega)) ?_
        refine J.done ?_
        refine X.inNormal ?_
        refine X.go ?_
        refine C.keep (.cons 29 rfl (.cons 30 rfl (.cons 31 rfl (.cons 32 rfl (.cons 33 rfl .nil))))) ?_
        refine C.reg ?_
        refine J.q rfl rfl rfl rfl (Q.add (.t 0 rfl) .c (by omega)) ?_  -- 10:0 cable.go:136 t70 binOp
        refine J.keep (.cons 0 rfl (.cons 2 rfl (.cons 3 rfl (.cons 4 rfl (.cons 5 rfl .nil))))) ?_
        refine J.q rfl rfl rfl rfl (Q.move (.t 0 rfl)) ?_  -- 10:1 cable.go:136 t25 move
        refine J.done ?_
        refine X.nx (⟨(k + 1, out.set k (⟨v.lo - (i.hi * n.ohms.hi + 999) / 1000, v.hi - i.lo * n.ohms.lo / 1000⟩ : Span)), by simp only; omega, by rw [hs]; obtain ⟨m, rfl⟩ : ∃ m, k = m + 1 := ⟨k - 1, by omega⟩; simp only [voltUpto, voltStep]; rw [hx, hix]; simp only; rw [← hs]; simp [List.getD, hv], by simpa using hl⟩) (.cons 0 (by (first | rfl | (simp; done))) (.cons 2 (by (first | rfl | (simp; done))) (.cons 3 (by (first | rfl | (simp; done))) (.cons 4 (by (first | rfl | (simp; done))) (.cons 5 (by (first | rfl | (simp; done))) .nil))))) ?_ ?_
        ·
          exact fun _ h => h.dropM.dropM.dropM
        ·
          simp; omega
    ·
      simp only [decide_eq_true_eq, decide_eq_false_iff_not, Bool.and_eq_true, Bool.or_eq_true, Bool.and_eq_false_iff, Bool.or_eq_false_iff, Bool.not_eq_true', Bool.not_eq_false', beq_iff_eq, bne_iff_ne, Int.not_lt, Int.not_le, Decidable.not_not, ne_eq] at c0
      refine C.exit ?_
      refine X.thenExit ?_
      refine X.thenExit ?_
      refine X.inHit ?_
      refine X.go ?_
      refine C.keep (.cons 4 rfl .nil) ?_
      refine C.seq ?_
      refine C.reg ?_
      refine J.q rfl rfl rfl rfl (Q.move (.t 0 rfl)) ?_  -- 11:0 cable.go:144 t71 move
      refine J.q rfl rfl rfl rfl (Q.assign (.t 0 rfl)) ?_  -- 11:1 cable.go:144 t2 assign
      refine J.end_ ?_
      refine C.keep (.cons 0 rfl .nil) ?_
      refine C.ret ?_
      refine X.ret1 rfl 0 rfl (fun w hA => ?_)
      exact PostN.of (X := Nat) b14 trivial (by have h := hA.front (.there .here); rw [show out = voltages c by rw [hs, voltages]; congr 1; omega] at h; exact h)

theorem Voltages_ok (w : World) (c : Cable) (a : Option Addr) (cc : Nat) (hr : (rowO a 8 Nd.enc c.nodes).ok w) (hcc : c.nodes.length ≤ cc) (h : c.check = 0) : Calls Try.prog 19 [.agg (c.cells a cc).toArray].toArray w (PostN (fun _ : Nat => True) (fun x => .tuple [.slice (some ⟨x, 0, none⟩) c.nodes.length c.nodes.length, .int .i64 0].toArray) (fun x => bx x 23 ((voltages c).flatMap Span.enc)) w) := by
  have hF := Fit.of h
  have hn0 := hF.pos
  obtain ⟨b, o, rfl⟩ := rowO.addr hr.1 (by omega)
  refine Calls.enter Try.func19 rfl rfl rfl ?_
  refine C.conseq (A' := St w no [] [rowO (some ⟨b, o, none⟩) 8 Nd.enc c.nodes]) (fun _ e => by subst e; exact St.init _ _ (by simp [hr])) ?_
  refine C.seq ?_
  refine C.reg ?_
  refine J.box rfl rfl rfl rfl (.t 0 rfl) rfl ?_; intro b1 hb1  -- 0:0 cable.go:148 t1 box
  refine J.q rfl rfl rfl rfl (Q.assign .c) ?_  -- 0:1 cable.go:148 t2 assign
  refine J.q rfl rfl rfl rfl (Q.assign .c) ?_  -- 0:2 cable.go:148 t3 assign
  refine J.end_ ?_
  refine C.keep (.cons 2 rfl .nil) ?_
  refine C.seq ?_
  refine C.reg ?_
  refine J.q rfl rfl rfl rfl (Q.loadsV (.t 0 rfl) ⟨Try.isAgg26, Try.sizeOf26⟩ (by first | (first | exact ldT 3 0 rfl (by repeat constructor) | exact ldTΦ 3 0 rfl (by repeat constructor) | exact ldT 3 1 rfl (by repeat constructor) | exact ldTΦ 3 1 rfl (by repeat constructor) | exact ldT 3 2 rfl (by repeat constructor) | exact ldTΦ 3 2 rfl (by repeat constructor) | exact ldT 3 3 rfl (by repeat constructor) | exact ldTΦ 3 3 rfl (by repeat constructor) | exact ldT 3 4 rfl (by repeat constructor) | exact ldTΦ 3 4 rfl (by repeat constructor) | exact ldT 3 5 rfl (by repeat constructor) | exact ldTΦ 3 5 rfl (by repeat constructor) | exact ldT 3 6 rfl (by repeat constructor) | exact ldO 0 rfl (by assumption) | exact ldO 1 rfl (by assumption) | exact ldO 2 rfl (by assumption) | exact ldO 3 rfl (by assumption) | exact ldOT 3 0 rfl (by assumption) (by repeat constructor) | exact ldOT 3 1 rfl (by assumption) (by repeat constructor) | exact ldOT 3 2 rfl (by assumption) (by repeat constructor) | exact ldOT 3 3 rfl (by assumption) (by repeat constructor)) | (first | exact ldO1 0 rfl (by assumption) rfl | exact ldO1 1 rfl (by assumption) rfl | exact ldO1 2 rfl (by assumption) rfl | exact ldO1 3 rfl (by assumption) rfl | exact ldO1 4 rfl (by assumption) rfl | exact ldO1 5 rfl (by assumption) rfl | exact ldM1 0 rfl (fun _ => rfl) (by assumption) rfl | exact ldM1 1 rfl (fun _ => rfl) (by assumption) rfl | exact ldM1 2 rfl (fun _ => rfl) (by assumption) rfl | exact ldM1 3 rfl (fun _ => rfl) (by assumption) rfl | exact ldM1 4 rfl (fun _ => rfl) (by assumption) rfl | exact ldM1 5 rfl (fun _ => rfl) (by assumption) rfl)) rfl) ?_  -- 1:0 cable.go:149 t7 load
  refine J.callS rfl rfl rfl rfl (run_static Try.call23 .f (.cons (.t 0 rfl) .nil) rfl) (fun w hA => open_ok w c _ cc (hA.ok (r := rowO _ 8 Nd.enc c.nodes) 0 rfl) hcc h) ?_  -- 1:1 cable.go:149 t8 call
  intro t ht
  refine openTree 0 rfl ?_
  refine J.q rfl rfl rfl rfl (Q.move (.t 0 rfl)) ?_  -- 1:2 cable.go:149 t6 move
  refine J.q rfl rfl rfl rfl (Q.extract (.t 0 rfl) rfl) ?_  -- 1:3 cable.go:149 t9 extract
  refine J.q rfl rfl rfl rfl (Q.extract (.t 1 rfl) rfl) ?_  -- 1:4 cable.go:149 t10 extract
  refine J.q rfl rfl rfl rfl (Q.assign (.t 1 rfl)) ?_  -- 1:5 cable.go:149 t4 assign
  refine J.q rfl rfl rfl rfl (Q.assign (.t 1 rfl)) ?_  -- 1:6 cable.go:149 t5 assign
  refine J.end_ ?_
  refine C.keep (.cons 0 rfl (.cons 1 rfl .nil)) ?_
  refine C.seq ?_
  refine C.seq ?_
  refine C.reg ?_
  refine J.q rfl rfl rfl rfl (Q.move (.t 0 rfl)) ?_  -- 2:0 cable.go:150 t11 move
  refine J.q rfl rfl rfl rfl (Q.neq (.t 0 rfl) .c) ?_  -- 2:1 cable.go:150 t12 binOp
  refine J.end_ ?_
  refine C.keep (.cons 0 rfl (.cons 2 rfl (.cons 3 rfl .nil))) ?_
  refine C.cond (.t 0 rfl) (fun c0 => ?_) (fun c0 => ?_)  -- cond 0
  ·
    exact absurd c0 (by simp)
  ·
    refine C.skip ?_
    refine X.go ?_
    refine C.keep (.cons 2 rfl .nil) ?_
    refine C.seq ?_
    refine C.reg ?_
    refine J.q rfl rfl rfl rfl (Q.move (.t 0 rfl)) ?_  -- 4:0 cable.go:153 t14 move
    refine J.callN rfl rfl rfl rfl (run_static Try.call35 .f (.cons (.t 0 rfl) .nil) rfl) (fun w hA => voltages_calls w c b o cc t.p t.q hF (hA.ok (r := rowO (some ⟨b, o, none⟩) 8 Nd.enc c.nodes) 3 rfl) (hA.ok (r := bx t.p 82 (c.tcells (some ⟨b, o, none⟩) cc t.q)) 1 rfl)) ?_  -- 4:1 cable.go:153 t15 call
    intro x _
    refine J.q rfl rfl rfl rfl (Q.assign (.t 0 rfl)) ?_  -- 4:2 cable.go:153 t2 assign
    refine J.q rfl rfl rfl rfl (Q.assign .c) ?_  -- 4:3 cable.go:153 t3 assign
    refine J.end_ ?_
    refine C.keep (.cons 0 rfl (.cons 1 rfl .nil)) ?_
    refine C.ret ?_
    refine X.ret2 rfl 1 0 rfl rfl (fun w hA => ?_)
    exact PostN.of (X := Nat) x trivial hA

end Go.Proofs
