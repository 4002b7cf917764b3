/- cable: sorted cable: Share cable: subtree cable: Subtree cable: breakers cable: opens -/
import Derived.Test.YtafghgomhjeabaaC2
import Derived.Test.YtafghgomhjeabaaC1
import Derived.Test.YtafghgomhjeabaaProg
set_option linter.unusedVariables false
set_option linter.unusedSimpArgs false
namespace Go.Proofs
open Go Go.J Go.RowKit Go.Cab
set_option maxRecDepth 4096
set_option linter.unusedSimpArgs false
set_option linter.unusedVariables false
theorem isNaN_calls (w : World) (x : Int) : Calls Try.prog 65 [.int .i64 x].toArray w (PostV (.bool false) w) := by
  refine Calls.enter Try.func65 rfl rfl rfl ?_
  refine C.conseq (A' := St w no [] []) (fun _ e => by subst e; exact St.init _ [] (by simp)) ?_
  refine C.seq ?_
  refine C.reg ?_
  refine J.q rfl rfl rfl rfl (Q.assign .c) ?_  -- 0:0 cmp.go:63 t2 assign
  refine J.end_ ?_
  refine C.keep (.cons 1 rfl .nil) ?_
  refine C.seq ?_
  refine C.reg ?_
  refine J.q rfl rfl rfl rfl (Q.move (.t 0 rfl)) ?_  -- 1:0 cmp.go:64 t3 move
  refine J.q rfl rfl rfl rfl (Q.move (.t 1 rfl)) ?_  -- 1:1 cmp.go:64 t4 move
  refine J.q rfl rfl rfl rfl (Q.neq (.t 1 rfl) (.t 0 rfl)) ?_  -- 1:2 cmp.go:64 t5 binOp
  refine J.q rfl rfl rfl rfl (Q.assign (.t 0 rfl)) ?_  -- 1:3 cmp.go:64 t2 assign
  refine J.end_ ?_
  refine C.keep (.cons 0 rfl .nil) ?_
  refine C.ret ?_
  refine X.ret1 rfl 0 rfl (fun w hA => ?_)
  exact PostV.eq hA (by simp)

theorem Compare_calls (w : World) (x y : Int) : Calls Try.prog 48 [.int .i64 x, .int .i64 y].toArray w (PostV (.int .i64 (cmpI x y)) w) := by
  refine Calls.enter Try.func48 rfl rfl rfl ?_
  refine C.conseq (A' := St w no [] []) (fun _ e => by subst e; exact St.init _ [] (by simp)) ?_
  refine C.seq ?_
  refine C.reg ?_
  refine J.q rfl rfl rfl rfl (Q.assign .c) ?_  -- 0:0 cmp.go:40 t4 assign
  refine J.end_ ?_
  refine C.keep (.cons 1 rfl (.cons 2 rfl .nil)) ?_
  refine C.seq ?_
  refine C.reg ?_
  refine J.q rfl rfl rfl rfl (Q.move (.t 0 rfl)) ?_  -- 1:0 cmp.go:41 t7 move
  refine J.callV rfl rfl rfl rfl (run_static Try.call65 .f (.cons (.t 0 rfl) .nil) rfl) (fun w hA => isNaN_calls w x) ?_  -- 1:1 cmp.go:41 t8 call
  refine J.q rfl rfl rfl rfl (Q.assign (.t 0 rfl)) ?_  -- 1:2 cmp.go:41 t5 assign
  refine J.end_ ?_
  refine C.keep (.cons 0 rfl (.cons 3 rfl (.cons 4 rfl .nil))) ?_
  refine C.seq ?_
  refine C.reg ?_
  refine J.q rfl rfl rfl rfl (Q.move (.t 2 rfl)) ?_  -- 2:0 cmp.go:42 t9 move
  refine J.callV rfl rfl rfl rfl (run_static Try.call65 .f (.cons (.t 0 rfl) .nil) rfl) (fun w hA => isNaN_calls w y) ?_  -- 2:1 cmp.go:42 t10 call
  refine J.q rfl rfl rfl rfl (Q.assign (.t 0 rfl)) ?_  -- 2:2 cmp.go:42 t6 assign
  refine J.end_ ?_
  refine C.keep (.cons 0 rfl (.cons 3 rfl (.cons 4 rfl (.cons 5 rfl .nil)))) ?_
  refine C.seq ?_
  refine C.seq ?_
  refine C.reg ?_
  refine J.q rfl rfl rfl rfl (Q.move (.t 1 rfl)) ?_  -- 3:0 cmp.go:43 t11 move
  refine J.end_ ?_
  refine C.keep (.cons 0 rfl (.cons 1 rfl (.cons 3 rfl (.cons 4 rfl .nil)))) ?_
  refine C.cond (.t 0 rfl) (fun c0 => ?_) (fun c0 => ?_)  -- cond 0
  ·
    exact absurd c0 (by simp)
  ·
    refine C.skip ?_
    refine X.go ?_
    refine C.keep (.cons 1 rfl (.cons 2 rfl (.cons 3 rfl .nil))) ?_
    refine C.seq ?_
    refine C.seq ?_
    refine C.reg ?_
    refine J.q rfl rfl rfl rfl (Q.move (.t 0 rfl)) ?_  -- 7:0 cmp.go:49 t13 move
    refine J.end_ ?_
    refine C.keep (.cons 0 rfl (.cons 2 rfl (.cons 3 rfl .nil))) ?_
    refine C.cond (.t 0 rfl) (fun c1 => ?_) (fun c1 => ?_)  -- cond 1
    ·
      exact absurd c1 (by simp)
    ·
      refine C.skip ?_
      refine X.go ?_
      refine C.keep (.cons 1 rfl (.cons 2 rfl .nil)) ?_
      refine C.seq ?_
      refine C.seq ?_
      refine C.reg ?_
      refine J.q rfl rfl rfl rfl (Q.move (.t 0 rfl)) ?_  -- 9:0 cmp.go:52 t14 move
      refine J.q rfl rfl rfl rfl (Q.move (.t 2 rfl)) ?_  -- 9:1 cmp.go:52 t15 move
      refine J.q rfl rfl rfl rfl (Q.lss (.t 1 rfl) (.t 0 rfl)) ?_  -- 9:2 cmp.go:52 t16 binOp
      refine J.end_ ?_
      refine C.keep (.cons 0 rfl (.cons 3 rfl (.cons 4 rfl .nil))) ?_
      refine C.cond (.t 0 rfl) (fun c2 => ?_) (fun c2 => ?_)  -- cond 2
      ·
        simp only [decide_eq_true_eq, decide_eq_false_iff_not, Bool.and_eq_true, Bool.or_eq_true, Bool.and_eq_false_iff, Bool.or_eq_false_iff, Bool.not_eq_true', Bool.not_eq_false', beq_iff_eq, bne_iff_ne, Int.not_lt, Int.not_le, Decidable.not_not, ne_eq] at c2
        refine C.seq ?_
        refine C.reg ?_
        refine J.q rfl rfl rfl rfl (Q.assign .c) ?_  -- 10:0 cmp.go:53 t4 assign
        refine J.end_ ?_
        refine C.keep (.cons 0 rfl .nil) ?_
        refine C.ret ?_
        refine X.thenRet ?_
        refine X.ret1 rfl 0 rfl (fun w hA => ?_)
        exact PostV.eq hA (by rw [cmpI, if_pos (by omega)])
      ·
        simp only [decide_eq_true_eq, decide_eq_false_iff_not, Bool.and_eq_true, Bool.or_eq_true, Bool.and_eq_false_iff, Bool.or_eq_false_iff, Bool.not_eq_true', Bool.not_eq_false', beq_iff_eq, bne_iff_ne, Int.not_lt, Int.not_le, Decidable.not_not, ne_eq] at c2
        refine C.skip ?_
        refine X.go ?_
        refine C.keep (.cons 1 rfl (.cons 2 rfl .nil)) ?_
        refine C.seq ?_
        refine C.seq ?_
        refine C.reg ?_
        refine J.q rfl rfl rfl rfl (Q.move (.t 0 rfl)) ?_  -- 11:0 cmp.go:55 t17 move
        refine J.q rfl rfl rfl rfl (Q.move (.t 2 rfl)) ?_  -- 11:1 cmp.go:55 t18 move
        refine J.q rfl rfl rfl rfl (Q.gtr (.t 1 rfl) (.t 0 rfl)) ?_  -- 11:2 cmp.go:55 t19 binOp
        refine J.end_ ?_
        refine C.keep (.cons 0 rfl .nil) ?_
        refine C.cond (.t 0 rfl) (fun c3 => ?_) (fun c3 => ?_)  -- cond 3
        ·
          simp only [decide_eq_true_eq, decide_eq_false_iff_not, Bool.and_eq_true, Bool.or_eq_true, Bool.and_eq_false_iff, Bool.or_eq_false_iff, Bool.not_eq_true', Bool.not_eq_false', beq_iff_eq, bne_iff_ne, Int.not_lt, Int.not_le, Decidable.not_not, ne_eq] at c3
          refine C.seq ?_
          refine C.reg ?_
          refine J.q rfl rfl rfl rfl (Q.assign .c) ?_  -- 12:0 cmp.go:56 t4 assign
          refine J.end_ ?_
          refine C.keep (.cons 0 rfl .nil) ?_
          refine C.ret ?_
          refine X.thenRet ?_
          refine X.ret1 rfl 0 rfl (fun w hA => ?_)
          exact PostV.eq hA (by rw [cmpI, if_neg (by omega), if_pos (by omega)])
        ·
          simp only [decide_eq_true_eq, decide_eq_false_iff_not, Bool.and_eq_true, Bool.or_eq_true, Bool.and_eq_false_iff, Bool.or_eq_false_iff, Bool.not_eq_true', Bool.not_eq_false', beq_iff_eq, bne_iff_ne, Int.not_lt, Int.not_le, Decidable.not_not, ne_eq] at c3
          refine C.skip ?_
          refine X.go ?_
          refine C.keep .nil ?_
          refine C.seq ?_
          refine C.reg ?_
          refine J.q rfl rfl rfl rfl (Q.assign .c) ?_  -- 13:0 cmp.go:58 t4 assign
          refine J.end_ ?_
          refine C.ret ?_
          refine X.ret1 rfl 0 rfl (fun w hA => ?_)
          exact PostV.eq hA (by rw [cmpI, if_neg (by omega), if_neg (by omega)])

theorem Or_calls (w : World) (a : Option Addr) (c : Nat) (xs : List Int) (hr : (rowO a 1 enI xs).ok w) (hn : xs.length < 9223372036854775807) : Calls Try.prog 47 [.slice a xs.length c].toArray w (PostV (.int .i64 (orI xs)) w) := by
  refine Calls.enter Try.func47 rfl rfl rfl ?_
  refine C.conseq (A' := St w no [] [rowO a 1 enI xs]) (fun _ e => by subst e; exact St.init _ _ (by simpa using hr)) ?_
  refine C.seq ?_
  refine C.reg ?_
  refine J.q rfl rfl rfl rfl (Q.assign .c) ?_  -- 0:0 cmp.go:69 t2 assign
  refine J.end_ ?_
  refine C.keep (.cons 1 rfl .nil) ?_
  refine C.seq ?_
  refine C.reg ?_
  refine J.q rfl rfl rfl rfl (Q.assign .c) ?_  -- 1:0 cmp.go:70 t3 assign
  refine J.end_ ?_
  refine C.seq ?_
  refine C.seq ?_
  refine C.reg ?_
  refine J.q rfl rfl rfl rfl (Q.move (.t 1 rfl)) ?_  -- 2:0 cmp.go:71 t6 move
  refine J.q rfl rfl rfl rfl (Q.len Try.underlying33 (.t 0 rfl)) ?_  -- 2:1 cmp.go:71 t7 call
  refine J.q rfl rfl rfl rfl (Q.move .c) ?_  -- 2:2 cmp.go:71 t8 move
  refine J.end_ ?_
  refine C.keep (.cons 0 rfl (.cons 1 rfl (.cons 2 rfl (.cons 3 rfl .nil)))) ?_
  refine C.block ?_
  refine C.loop_1 (fun i => .int .i64 (i.1 : Int)) (G := { i : Nat // i ≤ xs.length ∧ ∀ s ∈ xs.take i, decide (s ≠ 0) = false }) (fun i => St w no [] [rowO a 1 enI xs]) (fun i => xs.length - i.1) (⟨0, by simp⟩) (by (first | rfl | (simp; done))) ?_ ?_
  ·
    (exact fun _ h => h)
  ·
    rintro ⟨i, hi, hgood⟩
    dsimp only
    refine C.seq ?_
    refine C.reg ?_
    refine J.q rfl rfl rfl rfl (Q.lss (.t 0 rfl) (.t 1 rfl)) ?_  -- 3:0 cmp.go:71 t9 binOp
    refine J.end_ ?_
    refine C.seq ?_
    refine C.cond (.t 0 rfl) (fun c0 => ?_) (fun c0 => ?_)  -- cond 0
    ·
      simp only [decide_eq_true_eq, decide_eq_false_iff_not, Bool.and_eq_true, Bool.or_eq_true, Bool.and_eq_false_iff, Bool.or_eq_false_iff, Bool.not_eq_true', Bool.not_eq_false', beq_iff_eq, bne_iff_ne, Int.not_lt, Int.not_le, Decidable.not_not, ne_eq] at c0
      have hlt : i < xs.length := by omega
      obtain ⟨x, hx⟩ := get_lt hlt
      obtain ⟨b, o, rfl⟩ := rowO.addr hr.1 (by omega)
      refine C.skip ?_
      refine X.go ?_
      refine C.keep (.cons 1 rfl (.cons 2 rfl (.cons 3 rfl (.cons 4 rfl .nil)))) ?_
      refine C.seq ?_
      refine C.block ?_
      refine C.seq ?_
      refine C.reg ?_
      refine J.q rfl rfl rfl rfl (Q.indexAddr Try.underlying33 Try.sizeOf3 (.t 2 rfl) (.t 0 rfl) (by omega)) ?_  -- 4:0 cmp.go:71 t10 indexAddr
      refine J.q rfl rfl rfl rfl (Q.load (.t 0 rfl) Try.isAgg3 (by exact ldO1 0 rfl hx rfl)) ?_  -- 4:1 cmp.go:71 t11 load
      refine J.q rfl rfl rfl rfl (Q.assign (.t 0 rfl)) ?_  -- 4:2 cmp.go:71 t5 assign
      refine J.end_ ?_
      refine C.keep (.cons 0 rfl (.cons 3 rfl (.cons 4 rfl (.cons 5 rfl (.cons 6 rfl .nil))))) ?_
      refine C.seq ?_
      refine C.reg ?_
      refine J.q rfl rfl rfl rfl (Q.move (.t 0 rfl)) ?_  -- 5:0 cmp.go:72 t12 move
      refine J.q rfl rfl rfl rfl (Q.move (.t 5 rfl)) ?_  -- 5:1 cmp.go:72 t13 move
      refine J.q rfl rfl rfl rfl (Q.neq (.t 1 rfl) (.t 0 rfl)) ?_  -- 5:2 cmp.go:72 t14 binOp
      refine J.end_ ?_
      refine C.keep (.cons 0 rfl (.cons 3 rfl (.cons 4 rfl (.cons 5 rfl (.cons 6 rfl (.cons 7 rfl .nil)))))) ?_
      refine C.cond (.t 0 rfl) (fun c1 => ?_) (fun c1 => ?_)  -- cond 1
      ·
        refine C.seq ?_
        refine C.reg ?_
        refine J.q rfl rfl rfl rfl (Q.move (.t 1 rfl)) ?_  -- 6:0 cmp.go:73 t15 move
        refine J.q rfl rfl rfl rfl (Q.assign (.t 0 rfl)) ?_  -- 6:1 cmp.go:73 t2 assign
        refine J.end_ ?_
        refine C.keep (.cons 0 rfl .nil) ?_
        refine C.ret ?_
        refine X.inRet ?_
        refine X.thenRet ?_
        refine X.thenRet ?_
        refine X.inRet ?_
        refine X.thenRet ?_
        refine X.ret1 rfl 0 rfl (fun w hA => ?_)
        exact PostV.eq hA (by rw [orI_found hx hgood c1])
      ·
        refine C.skip ?_
        refine X.inNormal ?_
        refine X.go ?_
        refine C.keep (.cons 2 rfl (.cons 3 rfl (.cons 4 rfl (.cons 5 rfl .nil)))) ?_
        refine C.reg ?_
        refine J.q rfl rfl rfl rfl (Q.add (.t 0 rfl) .c (by omega)) ?_  -- 7:0 cmp.go:71 t16 binOp
        refine J.keep (.cons 0 rfl (.cons 2 rfl (.cons 3 rfl (.cons 4 rfl .nil)))) ?_
        refine J.q rfl rfl rfl rfl (Q.move (.t 0 rfl)) ?_  -- 7:1 cmp.go:71 t8 move
        refine J.done ?_
        refine X.nx (⟨i + 1, by omega, take_succ_all hx hgood c1⟩) (.cons 0 (by (first | rfl | (simp; done))) (.cons 2 (by (first | rfl | (simp; done))) (.cons 3 (by (first | rfl | (simp; done))) (.cons 4 (by (first | rfl | (simp; done))) .nil)))) ?_ ?_
        ·
          (exact fun _ h => h)
        ·
          simp; omega
    ·
      simp only [decide_eq_true_eq, decide_eq_false_iff_not, Bool.and_eq_true, Bool.or_eq_true, Bool.and_eq_false_iff, Bool.or_eq_false_iff, Bool.not_eq_true', Bool.not_eq_false', beq_iff_eq, bne_iff_ne, Int.not_lt, Int.not_le, Decidable.not_not, ne_eq] at c0
      refine C.exit ?_
      refine X.thenExit ?_
      refine X.thenExit ?_
      refine X.inHit ?_
      refine X.go ?_
      refine C.keep (.cons 4 rfl .nil) ?_
      refine C.seq ?_
      refine C.reg ?_
      refine J.q rfl rfl rfl rfl (Q.move (.t 0 rfl)) ?_  -- 8:0 cmp.go:76 t17 move
      refine J.q rfl rfl rfl rfl (Q.assign (.t 0 rfl)) ?_  -- 8:1 cmp.go:76 t2 assign
      refine J.end_ ?_
      refine C.keep (.cons 0 rfl .nil) ?_
      refine C.ret ?_
      refine X.ret1 rfl 0 rfl (fun w hA => ?_)
      exact PostV.eq hA (by rw [orI_none (by rw [List.take_of_length_le (by omega)] at hgood; exact hgood)])

theorem key_calls (w : World) (b5 : Nat) (ra : Option Addr) (rc : Nat) (ranks : List Int) (hb : (bx b5 33 [.slice ra ranks.length rc]).ok w) (hr : (rowO ra 1 enI ranks).ok w) (k : Int) (hk : 0 ≤ k ∧ k < ranks.length) : Calls Try.prog 26 [.int .i64 k, .pointer (some ⟨b5, 0, none⟩)].toArray w (PostV (.int .i64 (ranks.getD k.toNat 0)) w) := by
  obtain ⟨x, hx⟩ := get_lt (xs := ranks) (i := k.toNat) (by omega)
  obtain ⟨b, o, rfl⟩ := rowO.addr hr.1 (by omega)
  refine Calls.enter Try.func26 rfl rfl rfl ?_
  refine C.conseq (A' := St w no [] [bx b5 33 [.slice (some ⟨b, o, none⟩) ranks.length rc], rowO (some ⟨b, o, none⟩) 1 enI ranks]) (fun _ e => by subst e; exact St.init _ _ (by simp [hb, hr])) ?_
  refine C.seq ?_
  refine C.reg ?_
  refine J.q rfl rfl rfl rfl (Q.assign .c) ?_  -- 0:0 cable.go:230 t3 assign
  refine J.end_ ?_
  refine C.keep (.cons 1 rfl (.cons 2 rfl .nil)) ?_
  refine C.seq ?_
  refine C.reg ?_
  refine J.q rfl rfl rfl rfl (Q.load (.t 1 rfl) Try.isAgg33 (by first | (first | exact ldT 1 0 rfl (by repeat constructor) | exact ldTΦ 1 0 rfl (by repeat constructor) | exact ldT 1 1 rfl (by repeat constructor) | exact ldTΦ 1 1 rfl (by repeat constructor) | exact ldT 1 2 rfl (by repeat constructor) | exact ldTΦ 1 2 rfl (by repeat constructor) | exact ldT 1 3 rfl (by repeat constructor) | exact ldTΦ 1 3 rfl (by repeat constructor) | exact ldT 1 4 rfl (by repeat constructor) | exact ldTΦ 1 4 rfl (by repeat constructor) | exact ldT 1 5 rfl (by repeat constructor) | exact ldTΦ 1 5 rfl (by repeat constructor) | exact ldT 1 6 rfl (by repeat constructor) | exact ldO 0 rfl (by assumption) | exact ldO 1 rfl (by assumption) | exact ldO 2 rfl (by assumption) | exact ldO 3 rfl (by assumption) | exact ldOT 1 0 rfl (by assumption) (by repeat constructor) | exact ldOT 1 1 rfl (by assumption) (by repeat constructor) | exact ldOT 1 2 rfl (by assumption) (by repeat constructor) | exact ldOT 1 3 rfl (by assumption) (by repeat constructor)) | (first | exact ldO1 0 rfl (by assumption) rfl | exact ldO1 1 rfl (by assumption) rfl | exact ldO1 2 rfl (by assumption) rfl | exact ldO1 3 rfl (by assumption) rfl | exact ldO1 4 rfl (by assumption) rfl | exact ldO1 5 rfl (by assumption) rfl | exact ldM1 0 rfl (fun _ => rfl) (by assumption) rfl | exact ldM1 1 rfl (fun _ => rfl) (by assumption) rfl | exact ldM1 2 rfl (fun _ => rfl) (by assumption) rfl | exact ldM1 3 rfl (fun _ => rfl) (by assumption) rfl | exact ldM1 4 rfl (fun _ => rfl) (by assumption) rfl | exact ldM1 5 rfl (fun _ => rfl) (by assumption) rfl))) ?_  -- 1:0 cable.go:230 t4 load
  refine J.q rfl rfl rfl rfl (Q.move (.t 1 rfl)) ?_  -- 1:1 cable.go:230 t5 move
  refine J.q rfl rfl rfl rfl (Q.indexAddr Try.underlying33 Try.sizeOf3 (.t 1 rfl) (.t 0 rfl) (by omega)) ?_  -- 1:2 cable.go:230 t6 indexAddr
  refine J.q rfl rfl rfl rfl (Q.load (.t 0 rfl) Try.isAgg3 (by exact ldO1 1 rfl hx rfl)) ?_  -- 1:3 cable.go:230 t7 load
  refine J.q rfl rfl rfl rfl (Q.assign (.t 0 rfl)) ?_  -- 1:4 cable.go:230 t3 assign
  refine J.end_ ?_
  refine C.keep (.cons 0 rfl .nil) ?_
  refine C.ret ?_
  refine X.ret1 rfl 0 rfl (fun w hA => ?_)
  exact PostV.eq hA (by simp [List.getD, hx])

theorem sorted1_calls (w : World) (b3 b5 : Nat) (ra : Option Addr) (rc : Nat) (ranks : List Int) (hb3 : (bx b3 62 [.func (.func 26) [].toArray [.pointer (some ⟨b5, 0, none⟩)].toArray]).ok w) (hb : (bx b5 33 [.slice ra ranks.length rc]).ok w) (hr : (rowO ra 1 enI ranks).ok w) (x y : Int) (hx : 0 ≤ x ∧ x < ranks.length) (hy : 0 ≤ y ∧ y < ranks.length) : Calls Try.prog 46 [.int .i64 x, .int .i64 y, .pointer (some ⟨b3, 0, none⟩)].toArray w (PostV (.int .i64 (cfR ranks x y)) w) := by
  refine Calls.enter Try.func46 rfl rfl rfl ?_
  refine C.conseq (A' := St w no [] [bx b3 62 [.func (.func 26) [].toArray [.pointer (some ⟨b5, 0, none⟩)].toArray], bx b5 33 [.slice ra ranks.length rc], rowO ra 1 enI ranks]) (fun _ e => by subst e; exact St.init _ _ (by simp [hb3, hb, hr])) ?_
  refine C.seq ?_
  refine C.reg ?_
  refine J.q rfl rfl rfl rfl (Q.assign .c) ?_  -- 0:0 cable.go:199 t5 assign
  refine J.end_ ?_
  refine C.keep (.cons 1 rfl (.cons 2 rfl (.cons 3 rfl .nil))) ?_
  refine C.seq ?_
  refine C.drawS ?_
  refine JC.q 0 rfl rfl rfl rfl (Q.load (.t 2 rfl) Try.isAgg62 (by first | (first | exact ldT 1 0 rfl (by repeat constructor) | exact ldTΦ 1 0 rfl (by repeat constructor) | exact ldT 1 1 rfl (by repeat constructor) | exact ldTΦ 1 1 rfl (by repeat constructor) | exact ldT 1 2 rfl (by repeat constructor) | exact ldTΦ 1 2 rfl (by repeat constructor) | exact ldT 1 3 rfl (by repeat constructor) | exact ldTΦ 1 3 rfl (by repeat constructor) | exact ldT 1 4 rfl (by repeat constructor) | exact ldTΦ 1 4 rfl (by repeat constructor) | exact ldT 1 5 rfl (by repeat constructor) | exact ldTΦ 1 5 rfl (by repeat constructor) | exact ldT 1 6 rfl (by repeat constructor) | exact ldO 0 rfl (by assumption) | exact ldO 1 rfl (by assumption) | exact ldO 2 rfl (by assumption) | exact ldO 3 rfl (by assumption) | exact ldOT 1 0 rfl (by assumption) (by repeat constructor) | exact ldOT 1 1 rfl (by assumption) (by repeat constructor) | exact ldOT 1 2 rfl (by assumption) (by repeat constructor) | exact ldOT 1 3 rfl (by assumption) (by repeat constructor)) | (first | exact ldO1 0 rfl (by assumption) rfl | exact ldO1 1 rfl (by assumption) rfl | exact ldO1 2 rfl (by assumption) rfl | exact ldO1 3 rfl (by assumption) rfl | exact ldO1 4 rfl (by assumption) rfl | exact ldO1 5 rfl (by assumption) rfl | exact ldM1 0 rfl (fun _ => rfl) (by assumption) rfl | exact ldM1 1 rfl (fun _ => rfl) (by assumption) rfl | exact ldM1 2 rfl (fun _ => rfl) (by assumption) rfl | exact ldM1 3 rfl (fun _ => rfl) (by assumption) rfl | exact ldM1 4 rfl (fun _ => rfl) (by assumption) rfl | exact ldM1 5 rfl (fun _ => rfl) (by assumption) rfl))) ?_  -- 1:0 cable.go:199 t6 load
  refine JC.q 1 rfl rfl rfl rfl (Q.move (.t 2 rfl)) ?_  -- 1:1 cable.go:199 t7 move
  refine JC.callV 2 rfl rfl rfl rfl (fun D => (run_closure (first := []) Try.call26 (.t 1 rfl) (.cons (.t 0 rfl) .nil) rfl)) (fun w hA => key_calls w b5 ra rc ranks (hA.ok (r := bx b5 33 [.slice ra ranks.length rc]) 1 rfl) (hA.ok (r := rowO ra 1 enI ranks) 2 rfl) y hy) ?_  -- 1:2 cable.go:199 t8 call
  refine JC.q 3 rfl rfl rfl rfl (Q.load (.t 5 rfl) Try.isAgg62 (by first | (first | exact ldT 1 0 rfl (by repeat constructor) | exact ldTΦ 1 0 rfl (by repeat constructor) | exact ldT 1 1 rfl (by repeat constructor) | exact ldTΦ 1 1 rfl (by repeat constructor) | exact ldT 1 2 rfl (by repeat constructor) | exact ldTΦ 1 2 rfl (by repeat constructor) | exact ldT 1 3 rfl (by repeat constructor) | exact ldTΦ 1 3 rfl (by repeat constructor) | exact ldT 1 4 rfl (by repeat constructor) | exact ldTΦ 1 4 rfl (by repeat constructor) | exact ldT 1 5 rfl (by repeat constructor) | exact ldTΦ 1 5 rfl (by repeat constructor) | exact ldT 1 6 rfl (by repeat constructor) | exact ldO 0 rfl (by assumption) | exact ldO 1 rfl (by assumption) | exact ldO 2 rfl (by assumption) | exact ldO 3 rfl (by assumption) | exact ldOT 1 0 rfl (by assumption) (by repeat constructor) | exact ldOT 1 1 rfl (by assumption) (by repeat constructor) | exact ldOT 1 2 rfl (by assumption) (by repeat constructor) | exact ldOT 1 3 rfl (by assumption) (by repeat constructor)) | (first | exact ldO1 0 rfl (by assumption) rfl | exact ldO1 1 rfl (by assumption) rfl | exact ldO1 2 rfl (by assumption) rfl | exact ldO1 3 rfl (by assumption) rfl | exact ldO1 4 rfl (by assumption) rfl | exact ldO1 5 rfl (by assumption) rfl | exact ldM1 0 rfl (fun _ => rfl) (by assumption) rfl | exact ldM1 1 rfl (fun _ => rfl) (by assumption) rfl | exact ldM1 2 rfl (fun _ => rfl) (by assumption) rfl | exact ldM1 3 rfl (fun _ => rfl) (by assumption) rfl | exact ldM1 4 rfl (fun _ => rfl) (by assumption) rfl | exact ldM1 5 rfl (fun _ => rfl) (by assumption) rfl))) ?_  -- 1:3 cable.go:199 t9 load
  refine JC.q 4 rfl rfl rfl rfl (Q.move (.t 4 rfl)) ?_  -- 1:4 cable.go:199 t10 move
  refine JC.callV 5 rfl rfl rfl rfl (fun D => (run_closure (first := []) Try.call26 (.t 1 rfl) (.cons (.t 0 rfl) .nil) rfl)) (fun w hA => key_calls w b5 ra rc ranks (hA.ok (r := bx b5 33 [.slice ra ranks.length rc]) 1 rfl) (hA.ok (r := rowO ra 1 enI ranks) 2 rfl) x hx) ?_  -- 1:5 cable.go:199 t11 call
  refine JC.callV 6 rfl rfl rfl rfl (fun D => (run_static Try.call48 .f (.cons (.t 3 rfl) (.cons (.t 0 rfl) .nil)) rfl)) (fun w hA => Compare_calls w _ _) ?_  -- 1:6 cable.go:199 t12 call
  refine JC.q 7 rfl rfl rfl rfl (Q.move (.t 7 rfl)) ?_  -- 1:7 cable.go:199 t13 move
  refine JC.q 8 rfl rfl rfl rfl (Q.move (.t 9 rfl)) ?_  -- 1:8 cable.go:199 t14 move
  refine JC.callV 9 rfl rfl rfl rfl (fun D => (run_static Try.call48 .f (.cons (.t 1 rfl) (.cons (.t 0 rfl) .nil)) rfl)) (fun w hA => Compare_calls w x y) ?_  -- 1:9 cable.go:199 t15 call
  refine JC.tail [0, 0, 3, 0, 0, 31, 63, 0, 0, 511, 1023, 2047, 4095] 3 mixed (by kernel_rfl) (by kernel_rfl) (by (first | (exact fun _ h => h) | (exact fun _ h => h.dropM) | (exact fun _ h => h.dropM.dropM) | (exact fun _ h => h.sub (by (repeat (first | exact List.Sublist.refl _ | exact List.nil_sublist _ | apply List.Sublist.cons_cons | apply List.Sublist.cons)); done)) | (exact fun _ h => h.subΦ (fun i hi => List.mem_cons_of_mem _ hi)))) ?_
  refine JT.pick [10] (by kernel_rfl) (.cons (DStep.of rfl ?_) .nil)
  refine J.lit rfl rfl rfl rfl rfl rfl Try.underlying33 inf3 (.cons (.t 3 rfl) (.cons (.t 0 rfl) .nil)) (Cs.eq (.cons rfl (.cons rfl .nil))) (by simp) (by simp) (by simp) (by simp) ?_; intro b16 hb16  -- 1:10 cable.go:199 t16 buildSlice
  refine J.finF rfl rfl ?_
  refine JT.pick [11] (by kernel_rfl) (.cons (DStep.of rfl ?_) .nil)
  refine J.callV rfl rfl rfl rfl (run_static Try.call47 .f (.cons (.t 0 rfl) .nil) rfl) (fun w hA => Or_calls w _ 2 [cmpI (ranks.getD y.toNat 0) (ranks.getD x.toNat 0), cmpI x y] (okRow hA 0 rfl rfl enI_len enI_ne) (by simp)) ?_  -- 1:11 cable.go:199 t17 call
  refine J.finF rfl rfl ?_
  refine JT.pick [12] (by kernel_rfl) (.cons (DStep.of rfl ?_) .nil)
  refine J.q rfl rfl rfl rfl (Q.assign (.t 0 rfl)) ?_  -- 1:12 cable.go:199 t5 assign
  refine J.finF rfl rfl ?_
  refine JT.end_ ?_
  refine X.go ?_
  refine C.keep (.cons 0 rfl .nil) ?_
  refine C.ret ?_
  refine X.ret1 rfl 0 rfl (fun w hA => ?_)
  exact PostV.eq hA rfl

theorem sorted_calls (w : World) (b5 : Nat) (ra : Option Addr) (rc : Nat) (ranks : List Int) (hb : (bx b5 33 [.slice ra ranks.length rc]).ok w) (hr : (rowO ra 1 enI ranks).ok w) (h0 : 0 < ranks.length) (hn : ranks.length ≤ 60) : Calls Try.prog 25 [.int .i64 ranks.length, .func (.func 26) [].toArray [.pointer (some ⟨b5, 0, none⟩)].toArray].toArray w (PostN (fun x : Nat × List Int => IsOrder ranks x.2) (fun x => .slice (some ⟨x.1, 0, none⟩) ranks.length ranks.length) (fun x => bx x.1 3 (x.2.flatMap enI)) w) := by
  haveI : Inhabited (Fin ranks.length) := ⟨⟨0, h0⟩⟩
  refine Calls.enter Try.func25 rfl rfl rfl ?_
  refine C.conseq (A' := St w no [] [bx b5 33 [.slice ra ranks.length rc], rowO ra 1 enI ranks]) (fun _ e => by subst e; exact St.init _ _ (by simp [hb, hr])) ?_
  refine C.seq ?_
  refine C.reg ?_
  refine J.box rfl rfl rfl rfl (.t 1 rfl) rfl ?_; intro b3 hb3  -- 0:0 cable.go:194 t3 box
  refine J.q rfl rfl rfl rfl (Q.assign .c) ?_  -- 0:1 cable.go:194 t4 assign
  refine J.end_ ?_
  refine C.keep (.cons 1 rfl (.cons 2 rfl .nil)) ?_
  refine C.seq ?_
  refine C.reg ?_
  refine J.q rfl rfl rfl rfl (Q.move (.t 1 rfl)) ?_  -- 1:0 cable.go:195 t7 move
  refine J.mkS rfl rfl rfl rfl Try.underlying33 inf3 (by simp) (.t 0 rfl) (.t 0 rfl) (by omega) (by omega) ?_; intro b8 hb8  -- 1:1 cable.go:195 t8 makeSlice
  refine J.q rfl rfl rfl rfl (Q.assign (.t 0 rfl)) ?_  -- 1:2 cable.go:195 t5 assign
  refine J.end_ ?_
  refine C.keep (.cons 0 rfl (.cons 3 rfl .nil)) ?_
  refine C.seq ?_
  refine C.seq ?_
  refine C.reg ?_
  refine J.q rfl rfl rfl rfl (Q.move (.t 0 rfl)) ?_  -- 2:0 cable.go:196 t9 move
  refine J.q rfl rfl rfl rfl (Q.len Try.underlying33 (.t 0 rfl)) ?_  -- 2:1 cable.go:196 t10 call
  refine J.q rfl rfl rfl rfl (Q.move .c) ?_  -- 2:2 cable.go:196 t11 move
  refine J.end_ ?_
  refine C.keep (.cons 0 rfl (.cons 1 rfl (.cons 3 rfl (.cons 4 rfl .nil)))) ?_
  refine C.block ?_
  refine C.loop_1 (fun i => .int .i64 (i.1 : Int)) (G := { i : Nat // i ≤ ranks.length }) (fun i => St w no [bx b8 3 ((fillTo ranks.length i.1).flatMap enI), bx b3 62 [.func (.func 26) [].toArray [.pointer (some ⟨b5, 0, none⟩)].toArray]] [bx b5 33 [.slice ra ranks.length rc], rowO ra 1 enI ranks]) (fun i => ranks.length - i.1) (⟨0, by simp⟩) (by (first | rfl | (simp; done))) ?_ ?_
  ·
    exact fun _ h => by rw [fillTo_zero, ← flat_repI]; exact h
  ·
    rintro ⟨i, hi⟩
    dsimp only
    refine C.seq ?_
    refine C.reg ?_
    refine J.q rfl rfl rfl rfl (Q.lss (.t 0 rfl) (.t 1 rfl)) ?_  -- 3:0 cable.go:196 t12 binOp
    refine J.end_ ?_
    refine C.seq ?_
    refine C.cond (.t 0 rfl) (fun c0 => ?_) (fun c0 => ?_)  -- cond 0
    ·
      simp only [decide_eq_true_eq, decide_eq_false_iff_not, Bool.and_eq_true, Bool.or_eq_true, Bool.and_eq_false_iff, Bool.or_eq_false_iff, Bool.not_eq_true', Bool.not_eq_false', beq_iff_eq, bne_iff_ne, Int.not_lt, Int.not_le, Decidable.not_not, ne_eq] at c0
      refine C.skip ?_
      refine X.go ?_
      refine C.keep (.cons 1 rfl (.cons 2 rfl (.cons 3 rfl (.cons 4 rfl .nil)))) ?_
      refine C.seq ?_
      refine C.block ?_
      refine C.seq ?_
      refine C.reg ?_
      refine J.q rfl rfl rfl rfl (Q.move (.t 0 rfl)) ?_  -- 4:0 cable.go:196 t13 move
      refine J.q rfl rfl rfl rfl (Q.assign (.t 0 rfl)) ?_  -- 4:1 cable.go:196 t6 assign
      refine J.end_ ?_
      refine C.keep (.cons 0 rfl (.cons 2 rfl (.cons 3 rfl (.cons 4 rfl (.cons 5 rfl .nil))))) ?_
      refine C.reg ?_
      refine J.q rfl rfl rfl rfl (Q.move (.t 3 rfl)) ?_  -- 5:0 cable.go:197 t14 move
      refine J.q rfl rfl rfl rfl (Q.move (.t 1 rfl)) ?_  -- 5:1 cable.go:197 t15 move
      refine J.q rfl rfl rfl rfl (Q.move (.t 2 rfl)) ?_  -- 5:2 cable.go:197 t16 move
      refine J.q rfl rfl rfl rfl (Q.indexAddr Try.underlying33 Try.sizeOf3 (.t 2 rfl) (.t 1 rfl) (by omega)) ?_  -- 5:3 cable.go:197 t17 indexAddr
      refine J.s rfl rfl rfl (S.storeR (enc := enI) (e := (i : Int)) (.t 0 rfl) (.t 1 rfl) Try.sizeOf3 (fun _ => rfl) rfl rfl (by (first | exact Nd.enc_one _ | (first | exact Span.enc_one _ | ((intro u hu; simp at hu; first | done | ((repeat' (rcases hu with rfl | hu)) <;> (try subst hu) <;> rfl)))))) (by (repeat (first | exact Upd.here | apply Upd.there))) (by rw [fillTo, List.length_map, List.length_range]; omega)) ?_
      refine J.done ?_
      refine X.inNormal ?_
      refine X.go ?_
      refine C.keep (.cons 5 rfl (.cons 6 rfl (.cons 7 rfl (.cons 8 rfl .nil)))) ?_
      refine C.reg ?_
      refine J.q rfl rfl rfl rfl (Q.add (.t 0 rfl) .c (by omega)) ?_  -- 6:0 cable.go:196 t18 binOp
      refine J.keep (.cons 0 rfl (.cons 2 rfl (.cons 3 rfl (.cons 4 rfl .nil)))) ?_
      refine J.q rfl rfl rfl rfl (Q.move (.t 0 rfl)) ?_  -- 6:1 cable.go:196 t11 move
      refine J.done ?_
      refine X.nx (⟨i + 1, by omega⟩) (.cons 0 (by (first | rfl | (simp; done))) (.cons 2 (by (first | rfl | (simp; done))) (.cons 3 (by (first | rfl | (simp; done))) (.cons 4 (by (first | rfl | (simp; done))) .nil)))) ?_ ?_
      ·
        exact fun _ h => by rw [← fillTo_next]; exact h
      ·
        simp; omega
    ·
      simp only [decide_eq_true_eq, decide_eq_false_iff_not, Bool.and_eq_true, Bool.or_eq_true, Bool.and_eq_false_iff, Bool.or_eq_false_iff, Bool.not_eq_true', Bool.not_eq_false', beq_iff_eq, bne_iff_ne, Int.not_lt, Int.not_le, Decidable.not_not, ne_eq] at c0
      refine C.exit ?_
      refine X.thenExit ?_
      refine X.thenExit ?_
      refine X.inHit ?_
      refine X.go ?_
      refine C.keep (.cons 3 rfl (.cons 4 rfl .nil)) ?_
      refine C.seq ?_
      refine C.reg ?_
      refine J.conseq (A' := St w no [bx b8 3 (((List.finRange ranks.length).map (fun i : Fin ranks.length => (i.val : Int))).flatMap enI)] [bx b3 62 [.func (.func 26) [].toArray [.pointer (some ⟨b5, 0, none⟩)].toArray], bx b5 33 [.slice ra ranks.length rc], rowO ra 1 enI ranks]) (fun _ h => by rw [fin_range, ← fillTo_all]; rw [show i = ranks.length by omega] at h; exact (h.permM (.swap _ _ _)).freeze) ?_
      refine J.q rfl rfl rfl rfl (Q.move (.t 0 rfl)) ?_  -- 7:0 cable.go:199 t19 move
      refine J.q rfl rfl rfl rfl (Q.makeFunc .nil (.cons (.t 2 rfl) .nil)) ?_  -- 7:1 cable.go:199 t20 makeFunc
      refine J.callU rfl rfl rfl rfl (run_static Try.call45 .f (.cons (.t 1 rfl) (.cons (.t 0 rfl) .nil)) rfl) (fun _ => .here) (fun w hA => by have := sortFunc_bx (fun i : Fin ranks.length => (i.val : Int)) Try.sortFunc45 (fun x y => cfR ranks x.val y.val) (cfR_swo ranks _) 46 [.pointer (some ⟨b3, 0, none⟩)] Try.call46 (T := 3) (b := b8) (cap := ranks.length) (xs := List.finRange ranks.length) (w := w) (Φ := [bx b3 62 [.func (.func 26) [].toArray [.pointer (some ⟨b5, 0, none⟩)].toArray], bx b5 33 [.slice ra ranks.length rc], rowO ra 1 enI ranks]) (hA.okM (r := bx b8 3 _) 0 rfl) (by simp; omega) (fun r hr => ⟨⟨(hA.imm r hr).1, (hA.imm r hr).2.1⟩, fun hb => (hA.imm r hr).2.2 _ (List.mem_cons_self ..) b8 rfl hb⟩) (fun x y W hW => sorted1_calls W b3 b5 ra rc ranks (hW _ (by simp)) (hW _ (by simp)) (hW _ (by simp)) x.val y.val (by omega) (by omega)); rw [List.length_finRange] at this; exact this) ?_  -- 7:2 cable.go:199 t21 call
      intro ys hys
      refine J.end_ ?_
      refine C.keep (.cons 3 rfl .nil) ?_
      refine C.seq ?_
      refine C.reg ?_
      refine J.q rfl rfl rfl rfl (Q.move (.t 0 rfl)) ?_  -- 8:0 cable.go:200 t22 move
      refine J.q rfl rfl rfl rfl (Q.assign (.t 0 rfl)) ?_  -- 8:1 cable.go:200 t4 assign
      refine J.end_ ?_
      refine C.keep (.cons 0 rfl .nil) ?_
      refine C.ret ?_
      refine X.ret1 rfl 0 rfl (fun w hA => ?_)
      exact PostN.of (X := Nat × List Int) (b8, ys.map fun i : Fin ranks.length => (i.val : Int)) (order_of hys.1 hys.2) hA

end Go.Proofs
namespace Go.Proofs
open Go Go.J Go.RowKit Go.Cab
set_option maxRecDepth 4096
set_option linter.unusedSimpArgs false
set_option linter.unusedVariables false
theorem Share_bad (w : World) (c : Cable) (a : Option Addr) (cc : Nat) (hr : (rowO a 8 Nd.enc c.nodes).ok w) (qa : Option Addr) (qc : Nat) (reqs : List Int) (hq : (rowO qa 1 enI reqs).ok w) (ra : Option Addr) (rc : Nat) (ranks : List Int) (hk : (rowO ra 1 enI ranks).ok w) (h : c.check ≠ 0) : Calls Try.prog 9 [.agg (c.cells a cc).toArray, .slice qa reqs.length qc, .slice ra ranks.length rc].toArray w (PostV (.tuple [.slice none 0 0, .int .i64 c.check].toArray) w) := by
  refine Calls.enterM Try.func9 rfl rfl rfl ?_
  refine C.conseq (A' := St w no [] [rowO a 8 Nd.enc c.nodes, rowO qa 1 enI reqs, rowO ra 1 enI ranks]) (fun _ e => by subst e; exact St.init _ _ (by simp [hr, hq, hk])) ?_
  refine C.seq ?_
  refine C.reg ?_
  refine J.box rfl rfl rfl rfl (.t 0 rfl) rfl ?_; intro b3 hb3  -- 0:0 cable.go:215 t3 box
  refine J.box rfl rfl rfl rfl (.t 3 rfl) rfl ?_; intro b5 hb5  -- 0:1 cable.go:215 t5 box
  refine J.q rfl rfl rfl rfl (Q.assign .c) ?_  -- 0:2 cable.go:215 t6 assign
  refine J.q rfl rfl rfl rfl (Q.assign .c) ?_  -- 0:3 cable.go:215 t7 assign
  refine J.end_ ?_
  refine C.keep (.cons 2 rfl (.cons 3 rfl (.cons 5 rfl .nil))) ?_
  refine C.seq ?_
  refine C.reg ?_
  refine J.q rfl rfl rfl rfl (Q.loadsV (.t 1 rfl) ⟨Try.isAgg26, Try.sizeOf26⟩ (by first | (first | exact ldT 3 0 rfl (by repeat constructor) | exact ldTΦ 3 0 rfl (by repeat constructor) | exact ldT 3 1 rfl (by repeat constructor) | exact ldTΦ 3 1 rfl (by repeat constructor) | exact ldT 3 2 rfl (by repeat constructor) | exact ldTΦ 3 2 rfl (by repeat constructor) | exact ldT 3 3 rfl (by repeat constructor) | exact ldTΦ 3 3 rfl (by repeat constructor) | exact ldT 3 4 rfl (by repeat constructor) | exact ldTΦ 3 4 rfl (by repeat constructor) | exact ldT 3 5 rfl (by repeat constructor) | exact ldTΦ 3 5 rfl (by repeat constructor) | exact ldT 3 6 rfl (by repeat constructor) | exact ldO 0 rfl (by assumption) | exact ldO 1 rfl (by assumption) | exact ldO 2 rfl (by assumption) | exact ldO 3 rfl (by assumption) | exact ldOT 3 0 rfl (by assumption) (by repeat constructor) | exact ldOT 3 1 rfl (by assumption) (by repeat constructor) | exact ldOT 3 2 rfl (by assumption) (by repeat constructor) | exact ldOT 3 3 rfl (by assumption) (by repeat constructor)) | (first | exact ldO1 0 rfl (by assumption) rfl | exact ldO1 1 rfl (by assumption) rfl | exact ldO1 2 rfl (by assumption) rfl | exact ldO1 3 rfl (by assumption) rfl | exact ldO1 4 rfl (by assumption) rfl | exact ldO1 5 rfl (by assumption) rfl | exact ldM1 0 rfl (fun _ => rfl) (by assumption) rfl | exact ldM1 1 rfl (fun _ => rfl) (by assumption) rfl | exact ldM1 2 rfl (fun _ => rfl) (by assumption) rfl | exact ldM1 3 rfl (fun _ => rfl) (by assumption) rfl | exact ldM1 4 rfl (fun _ => rfl) (by assumption) rfl | exact ldM1 5 rfl (fun _ => rfl) (by assumption) rfl)) rfl) ?_  -- 1:0 cable.go:216 t21 load
  refine J.callV rfl rfl rfl rfl (run_static Try.call23 .f (.cons (.t 0 rfl) .nil) rfl) (fun w hA => open_bad w c a cc (hA.ok (r := rowO a 8 Nd.enc c.nodes) 0 rfl) h) ?_  -- 1:1 cable.go:216 t22 call
  refine J.q rfl rfl rfl rfl (Q.move (.t 0 rfl)) ?_  -- 1:2 cable.go:216 t20 move
  refine J.q rfl rfl rfl rfl (Q.extract (.t 0 rfl) rfl) ?_  -- 1:3 cable.go:216 t23 extract
  refine J.q rfl rfl rfl rfl (Q.extract (.t 1 rfl) rfl) ?_  -- 1:4 cable.go:216 t24 extract
  refine J.q rfl rfl rfl rfl (Q.assign (.t 1 rfl)) ?_  -- 1:5 cable.go:216 t8 assign
  refine J.q rfl rfl rfl rfl (Q.assign (.t 1 rfl)) ?_  -- 1:6 cable.go:216 t9 assign
  refine J.end_ ?_
  refine C.keep (.cons 0 rfl (.cons 1 rfl (.cons 7 rfl (.cons 8 rfl (.cons 9 rfl .nil))))) ?_
  refine C.seq ?_
  refine C.seq ?_
  refine C.reg ?_
  refine J.q rfl rfl rfl rfl (Q.move (.t 0 rfl)) ?_  -- 2:0 cable.go:217 t25 move
  refine J.q rfl rfl rfl rfl (Q.neq (.t 0 rfl) .c) ?_  -- 2:1 cable.go:217 t26 binOp
  refine J.end_ ?_
  refine C.keep (.cons 0 rfl (.cons 2 rfl (.cons 3 rfl (.cons 4 rfl (.cons 5 rfl (.cons 6 rfl .nil)))))) ?_
  refine C.cond (.t 0 rfl) (fun c0 => ?_) (fun c0 => ?_)  -- cond 0
  ·
    refine C.seq ?_
    refine C.reg ?_
    refine J.q rfl rfl rfl rfl (Q.move (.t 1 rfl)) ?_  -- 3:0 cable.go:218 t27 move
    refine J.q rfl rfl rfl rfl (Q.assign .c) ?_  -- 3:1 cable.go:218 t6 assign
    refine J.q rfl rfl rfl rfl (Q.assign (.t 1 rfl)) ?_  -- 3:2 cable.go:218 t7 assign
    refine J.end_ ?_
    refine C.keep (.cons 0 rfl (.cons 1 rfl .nil)) ?_
    refine C.ret ?_
    refine X.thenRet ?_
    refine X.leave ?_
    refine XL.ret2 rfl 1 0 rfl rfl (fun w hA => ?_)
    exact PostV.eq hA rfl
  ·
    exact absurd (of_decide_eq_false c0) (by simpa using h)

theorem Share_ranks (w : World) (c : Cable) (a : Option Addr) (cc : Nat) (hr : (rowO a 8 Nd.enc c.nodes).ok w) (qa : Option Addr) (qc : Nat) (reqs : List Int) (hq : (rowO qa 1 enI reqs).ok w) (ra : Option Addr) (rc : Nat) (ranks : List Int) (hk : (rowO ra 1 enI ranks).ok w) (hcc : c.nodes.length ≤ cc) (h : c.check = 0) (hn : ranks.length ≠ c.nodes.length) : Calls Try.prog 9 [.agg (c.cells a cc).toArray, .slice qa reqs.length qc, .slice ra ranks.length rc].toArray w (PostV (.tuple [.slice none 0 0, .int .i64 17].toArray) w) := by
  have hF := Fit.of h
  have hn0 := hF.pos
  have hn60 := hF.le
  obtain ⟨b, o, rfl⟩ := rowO.addr hr.1 (by omega)
  refine Calls.enterM Try.func9 rfl rfl rfl ?_
  refine C.conseq (A' := St w no [] [rowO (some ⟨b, o, none⟩) 8 Nd.enc c.nodes, rowO qa 1 enI reqs, rowO ra 1 enI ranks]) (fun _ e => by subst e; exact St.init _ _ (by simp [hr, hq, hk])) ?_
  refine C.seq ?_
  refine C.reg ?_
  refine J.box rfl rfl rfl rfl (.t 0 rfl) rfl ?_; intro b3 hb3  -- 0:0 cable.go:215 t3 box
  refine J.box rfl rfl rfl rfl (.t 3 rfl) rfl ?_; intro b5 hb5  -- 0:1 cable.go:215 t5 box
  refine J.q rfl rfl rfl rfl (Q.assign .c) ?_  -- 0:2 cable.go:215 t6 assign
  refine J.q rfl rfl rfl rfl (Q.assign .c) ?_  -- 0:3 cable.go:215 t7 assign
  refine J.end_ ?_
  refine C.keep (.cons 2 rfl (.cons 3 rfl (.cons 5 rfl .nil))) ?_
  refine C.seq ?_
  refine C.reg ?_
  refine J.q rfl rfl rfl rfl (Q.loadsV (.t 1 rfl) ⟨Try.isAgg26, Try.sizeOf26⟩ (by first | (first | exact ldT 3 0 rfl (by repeat constructor) | exact ldTΦ 3 0 rfl (by repeat constructor) | exact ldT 3 1 rfl (by repeat constructor) | exact ldTΦ 3 1 rfl (by repeat constructor) | exact ldT 3 2 rfl (by repeat constructor) | exact ldTΦ 3 2 rfl (by repeat constructor) | exact ldT 3 3 rfl (by repeat constructor) | exact ldTΦ 3 3 rfl (by repeat constructor) | exact ldT 3 4 rfl (by repeat constructor) | exact ldTΦ 3 4 rfl (by repeat constructor) | exact ldT 3 5 rfl (by repeat constructor) | exact ldTΦ 3 5 rfl (by repeat constructor) | exact ldT 3 6 rfl (by repeat constructor) | exact ldO 0 rfl (by assumption) | exact ldO 1 rfl (by assumption) | exact ldO 2 rfl (by assumption) | exact ldO 3 rfl (by assumption) | exact ldOT 3 0 rfl (by assumption) (by repeat constructor) | exact ldOT 3 1 rfl (by assumption) (by repeat constructor) | exact ldOT 3 2 rfl (by assumption) (by repeat constructor) | exact ldOT 3 3 rfl (by assumption) (by repeat constructor)) | (first | exact ldO1 0 rfl (by assumption) rfl | exact ldO1 1 rfl (by assumption) rfl | exact ldO1 2 rfl (by assumption) rfl | exact ldO1 3 rfl (by assumption) rfl | exact ldO1 4 rfl (by assumption) rfl | exact ldO1 5 rfl (by assumption) rfl | exact ldM1 0 rfl (fun _ => rfl) (by assumption) rfl | exact ldM1 1 rfl (fun _ => rfl) (by assumption) rfl | exact ldM1 2 rfl (fun _ => rfl) (by assumption) rfl | exact ldM1 3 rfl (fun _ => rfl) (by assumption) rfl | exact ldM1 4 rfl (fun _ => rfl) (by assumption) rfl | exact ldM1 5 rfl (fun _ => rfl) (by assumption) rfl)) rfl) ?_  -- 1:0 cable.go:216 t21 load
  refine J.callS rfl rfl rfl rfl (run_static Try.call23 .f (.cons (.t 0 rfl) .nil) rfl) (fun w hA => open_ok w c _ cc (hA.ok (r := rowO _ 8 Nd.enc c.nodes) 0 rfl) hcc h) ?_  -- 1:1 cable.go:216 t22 call
  intro t ht
  refine openTree 0 rfl ?_
  refine J.q rfl rfl rfl rfl (Q.move (.t 0 rfl)) ?_  -- 1:2 cable.go:216 t20 move
  refine J.q rfl rfl rfl rfl (Q.extract (.t 0 rfl) rfl) ?_  -- 1:3 cable.go:216 t23 extract
  refine J.q rfl rfl rfl rfl (Q.extract (.t 1 rfl) rfl) ?_  -- 1:4 cable.go:216 t24 extract
  refine J.q rfl rfl rfl rfl (Q.assign (.t 1 rfl)) ?_  -- 1:5 cable.go:216 t8 assign
  refine J.q rfl rfl rfl rfl (Q.assign (.t 1 rfl)) ?_  -- 1:6 cable.go:216 t9 assign
  refine J.end_ ?_
  refine C.keep (.cons 0 rfl (.cons 1 rfl (.cons 7 rfl (.cons 8 rfl (.cons 9 rfl .nil))))) ?_
  refine C.seq ?_
  refine C.seq ?_
  refine C.reg ?_
  refine J.q rfl rfl rfl rfl (Q.move (.t 0 rfl)) ?_  -- 2:0 cable.go:217 t25 move
  refine J.q rfl rfl rfl rfl (Q.neq (.t 0 rfl) .c) ?_  -- 2:1 cable.go:217 t26 binOp
  refine J.end_ ?_
  refine C.keep (.cons 0 rfl (.cons 2 rfl (.cons 3 rfl (.cons 4 rfl (.cons 5 rfl (.cons 6 rfl .nil)))))) ?_
  refine C.cond (.t 0 rfl) (fun c0 => ?_) (fun c0 => ?_)  -- cond 0
  ·
    exact absurd c0 (by simp)
  ·
    refine C.skip ?_
    refine X.go ?_
    refine C.keep (.cons 2 rfl (.cons 3 rfl (.cons 4 rfl (.cons 5 rfl .nil)))) ?_
    refine C.seq ?_
    refine C.seq ?_
    refine C.reg ?_
    refine J.q rfl rfl rfl rfl (Q.load (.t 1 rfl) Try.isAgg33 (by first | (first | exact ldT 1 0 rfl (by repeat constructor) | exact ldTΦ 1 0 rfl (by repeat constructor) | exact ldT 1 1 rfl (by repeat constructor) | exact ldTΦ 1 1 rfl (by repeat constructor) | exact ldT 1 2 rfl (by repeat constructor) | exact ldTΦ 1 2 rfl (by repeat constructor) | exact ldT 1 3 rfl (by repeat constructor) | exact ldTΦ 1 3 rfl (by repeat constructor) | exact ldT 1 4 rfl (by repeat constructor) | exact ldTΦ 1 4 rfl (by repeat constructor) | exact ldT 1 5 rfl (by repeat constructor) | exact ldTΦ 1 5 rfl (by repeat constructor) | exact ldT 1 6 rfl (by repeat constructor) | exact ldO 0 rfl (by assumption) | exact ldO 1 rfl (by assumption) | exact ldO 2 rfl (by assumption) | exact ldO 3 rfl (by assumption) | exact ldOT 1 0 rfl (by assumption) (by repeat constructor) | exact ldOT 1 1 rfl (by assumption) (by repeat constructor) | exact ldOT 1 2 rfl (by assumption) (by repeat constructor) | exact ldOT 1 3 rfl (by assumption) (by repeat constructor)) | (first | exact ldO1 0 rfl (by assumption) rfl | exact ldO1 1 rfl (by assumption) rfl | exact ldO1 2 rfl (by assumption) rfl | exact ldO1 3 rfl (by assumption) rfl | exact ldO1 4 rfl (by assumption) rfl | exact ldO1 5 rfl (by assumption) rfl | exact ldM1 0 rfl (fun _ => rfl) (by assumption) rfl | exact ldM1 1 rfl (fun _ => rfl) (by assumption) rfl | exact ldM1 2 rfl (fun _ => rfl) (by assumption) rfl | exact ldM1 3 rfl (fun _ => rfl) (by assumption) rfl | exact ldM1 4 rfl (fun _ => rfl) (by assumption) rfl | exact ldM1 5 rfl (fun _ => rfl) (by assumption) rfl))) ?_  -- 4:0 cable.go:220 t28 load
    refine J.q rfl rfl rfl rfl (Q.len Try.underlying33 (.t 0 rfl)) ?_  -- 4:1 cable.go:220 t29 call
    refine J.q rfl rfl rfl rfl (Q.fa0 2 Try.underlying26 rfl Try.sizeOf24 rfl rfl (.t 4 rfl)) ?_  -- 4:2 cable.go:220 t30 fieldAddr
    refine J.q rfl rfl rfl rfl (Q.load (.t 0 rfl) Try.isAgg24 (by first | (first | exact ldT 1 0 rfl (by repeat constructor) | exact ldTΦ 1 0 rfl (by repeat constructor) | exact ldT 1 1 rfl (by repeat constructor) | exact ldTΦ 1 1 rfl (by repeat constructor) | exact ldT 1 2 rfl (by repeat constructor) | exact ldTΦ 1 2 rfl (by repeat constructor) | exact ldT 1 3 rfl (by repeat constructor) | exact ldTΦ 1 3 rfl (by repeat constructor) | exact ldT 1 4 rfl (by repeat constructor) | exact ldTΦ 1 4 rfl (by repeat constructor) | exact ldT 1 5 rfl (by repeat constructor) | exact ldTΦ 1 5 rfl (by repeat constructor) | exact ldT 1 6 rfl (by repeat constructor) | exact ldO 0 rfl (by assumption) | exact ldO 1 rfl (by assumption) | exact ldO 2 rfl (by assumption) | exact ldO 3 rfl (by assumption) | exact ldOT 1 0 rfl (by assumption) (by repeat constructor) | exact ldOT 1 1 rfl (by assumption) (by repeat constructor) | exact ldOT 1 2 rfl (by assumption) (by repeat constructor) | exact ldOT 1 3 rfl (by assumption) (by repeat constructor)) | (first | exact ldO1 0 rfl (by assumption) rfl | exact ldO1 1 rfl (by assumption) rfl | exact ldO1 2 rfl (by assumption) rfl | exact ldO1 3 rfl (by assumption) rfl | exact ldO1 4 rfl (by assumption) rfl | exact ldO1 5 rfl (by assumption) rfl | exact ldM1 0 rfl (fun _ => rfl) (by assumption) rfl | exact ldM1 1 rfl (fun _ => rfl) (by assumption) rfl | exact ldM1 2 rfl (fun _ => rfl) (by assumption) rfl | exact ldM1 3 rfl (fun _ => rfl) (by assumption) rfl | exact ldM1 4 rfl (fun _ => rfl) (by assumption) rfl | exact ldM1 5 rfl (fun _ => rfl) (by assumption) rfl))) ?_  -- 4:3 cable.go:220 t31 load
    refine J.q rfl rfl rfl rfl (Q.len Try.underlying24 (.t 0 rfl)) ?_  -- 4:4 cable.go:220 t32 call
    refine J.q rfl rfl rfl rfl (Q.neq (.t 3 rfl) (.t 0 rfl)) ?_  -- 4:5 cable.go:220 t33 binOp
    refine J.end_ ?_
    refine C.keep (.cons 0 rfl (.cons 6 rfl (.cons 7 rfl (.cons 8 rfl (.cons 9 rfl .nil))))) ?_
    refine C.cond (.t 0 rfl) (fun c1 => ?_) (fun c1 => ?_)  -- cond 1
    ·
      refine C.seq ?_
      refine C.reg ?_
      refine J.q rfl rfl rfl rfl (Q.assign .c) ?_  -- 5:0 cable.go:221 t6 assign
      refine J.q rfl rfl rfl rfl (Q.assign .c) ?_  -- 5:1 cable.go:221 t7 assign
      refine J.end_ ?_
      refine C.keep (.cons 0 rfl (.cons 1 rfl .nil)) ?_
      refine C.ret ?_
      refine X.thenRet ?_
      refine X.leave ?_
      refine XL.ret2 rfl 1 0 rfl rfl (fun w hA => ?_)
      exact PostV.eq hA rfl
    ·
      exact absurd c1 (by simp; omega)

theorem Share_amps (w : World) (c : Cable) (a : Option Addr) (cc : Nat) (hr : (rowO a 8 Nd.enc c.nodes).ok w) (qa : Option Addr) (qc : Nat) (reqs : List Int) (hq : (rowO qa 1 enI reqs).ok w) (ra : Option Addr) (rc : Nat) (ranks : List Int) (hk : (rowO ra 1 enI ranks).ok w) (hcc : c.nodes.length ≤ cc) (h : c.check = 0) (hn : ranks.length = c.nodes.length) (ha : ampsV c.nodes.length reqs ≠ 0) : Calls Try.prog 9 [.agg (c.cells a cc).toArray, .slice qa reqs.length qc, .slice ra ranks.length rc].toArray w (PostV (.tuple [.slice none 0 0, .int .i64 (ampsV c.nodes.length reqs)].toArray) w) := by
  have hF := Fit.of h
  have hn0 := hF.pos
  have hn60 := hF.le
  obtain ⟨b, o, rfl⟩ := rowO.addr hr.1 (by omega)
  refine Calls.enterM Try.func9 rfl rfl rfl ?_
  refine C.conseq (A' := St w no [] [rowO (some ⟨b, o, none⟩) 8 Nd.enc c.nodes, rowO qa 1 enI reqs, rowO ra 1 enI ranks]) (fun _ e => by subst e; exact St.init _ _ (by simp [hr, hq, hk])) ?_
  refine C.seq ?_
  refine C.reg ?_
  refine J.box rfl rfl rfl rfl (.t 0 rfl) rfl ?_; intro b3 hb3  -- 0:0 cable.go:215 t3 box
  refine J.box rfl rfl rfl rfl (.t 3 rfl) rfl ?_; intro b5 hb5  -- 0:1 cable.go:215 t5 box
  refine J.q rfl rfl rfl rfl (Q.assign .c) ?_  -- 0:2 cable.go:215 t6 assign
  refine J.q rfl rfl rfl rfl (Q.assign .c) ?_  -- 0:3 cable.go:215 t7 assign
  refine J.end_ ?_
  refine C.keep (.cons 2 rfl (.cons 3 rfl (.cons 5 rfl .nil))) ?_
  refine C.seq ?_
  refine C.reg ?_
  refine J.q rfl rfl rfl rfl (Q.loadsV (.t 1 rfl) ⟨Try.isAgg26, Try.sizeOf26⟩ (by first | (first | exact ldT 3 0 rfl (by repeat constructor) | exact ldTΦ 3 0 rfl (by repeat constructor) | exact ldT 3 1 rfl (by repeat constructor) | exact ldTΦ 3 1 rfl (by repeat constructor) | exact ldT 3 2 rfl (by repeat constructor) | exact ldTΦ 3 2 rfl (by repeat constructor) | exact ldT 3 3 rfl (by repeat constructor) | exact ldTΦ 3 3 rfl (by repeat constructor) | exact ldT 3 4 rfl (by repeat constructor) | exact ldTΦ 3 4 rfl (by repeat constructor) | exact ldT 3 5 rfl (by repeat constructor) | exact ldTΦ 3 5 rfl (by repeat constructor) | exact ldT 3 6 rfl (by repeat constructor) | exact ldO 0 rfl (by assumption) | exact ldO 1 rfl (by assumption) | exact ldO 2 rfl (by assumption) | exact ldO 3 rfl (by assumption) | exact ldOT 3 0 rfl (by assumption) (by repeat constructor) | exact ldOT 3 1 rfl (by assumption) (by repeat constructor) | exact ldOT 3 2 rfl (by assumption) (by repeat constructor) | exact ldOT 3 3 rfl (by assumption) (by repeat constructor)) | (first | exact ldO1 0 rfl (by assumption) rfl | exact ldO1 1 rfl (by assumption) rfl | exact ldO1 2 rfl (by assumption) rfl | exact ldO1 3 rfl (by assumption) rfl | exact ldO1 4 rfl (by assumption) rfl | exact ldO1 5 rfl (by assumption) rfl | exact ldM1 0 rfl (fun _ => rfl) (by assumption) rfl | exact ldM1 1 rfl (fun _ => rfl) (by assumption) rfl | exact ldM1 2 rfl (fun _ => rfl) (by assumption) rfl | exact ldM1 3 rfl (fun _ => rfl) (by assumption) rfl | exact ldM1 4 rfl (fun _ => rfl) (by assumption) rfl | exact ldM1 5 rfl (fun _ => rfl) (by assumption) rfl)) rfl) ?_  -- 1:0 cable.go:216 t21 load
  refine J.callS rfl rfl rfl rfl (run_static Try.call23 .f (.cons (.t 0 rfl) .nil) rfl) (fun w hA => open_ok w c _ cc (hA.ok (r := rowO _ 8 Nd.enc c.nodes) 0 rfl) hcc h) ?_  -- 1:1 cable.go:216 t22 call
  intro t ht
  refine openTree 0 rfl ?_
  refine J.q rfl rfl rfl rfl (Q.move (.t 0 rfl)) ?_  -- 1:2 cable.go:216 t20 move
  refine J.q rfl rfl rfl rfl (Q.extract (.t 0 rfl) rfl) ?_  -- 1:3 cable.go:216 t23 extract
  refine J.q rfl rfl rfl rfl (Q.extract (.t 1 rfl) rfl) ?_  -- 1:4 cable.go:216 t24 extract
  refine J.q rfl rfl rfl rfl (Q.assign (.t 1 rfl)) ?_  -- 1:5 cable.go:216 t8 assign
  refine J.q rfl rfl rfl rfl (Q.assign (.t 1 rfl)) ?_  -- 1:6 cable.go:216 t9 assign
  refine J.end_ ?_
  refine C.keep (.cons 0 rfl (.cons 1 rfl (.cons 7 rfl (.cons 8 rfl (.cons 9 rfl .nil))))) ?_
  refine C.seq ?_
  refine C.seq ?_
  refine C.reg ?_
  refine J.q rfl rfl rfl rfl (Q.move (.t 0 rfl)) ?_  -- 2:0 cable.go:217 t25 move
  refine J.q rfl rfl rfl rfl (Q.neq (.t 0 rfl) .c) ?_  -- 2:1 cable.go:217 t26 binOp
  refine J.end_ ?_
  refine C.keep (.cons 0 rfl (.cons 2 rfl (.cons 3 rfl (.cons 4 rfl (.cons 5 rfl (.cons 6 rfl .nil)))))) ?_
  refine C.cond (.t 0 rfl) (fun c0 => ?_) (fun c0 => ?_)  -- cond 0
  ·
    exact absurd c0 (by simp)
  ·
    refine C.skip ?_
    refine X.go ?_
    refine C.keep (.cons 2 rfl (.cons 3 rfl (.cons 4 rfl (.cons 5 rfl .nil)))) ?_
    refine C.seq ?_
    refine C.seq ?_
    refine C.reg ?_
    refine J.q rfl rfl rfl rfl (Q.load (.t 1 rfl) Try.isAgg33 (by first | (first | exact ldT 1 0 rfl (by repeat constructor) | exact ldTΦ 1 0 rfl (by repeat constructor) | exact ldT 1 1 rfl (by repeat constructor) | exact ldTΦ 1 1 rfl (by repeat constructor) | exact ldT 1 2 rfl (by repeat constructor) | exact ldTΦ 1 2 rfl (by repeat constructor) | exact ldT 1 3 rfl (by repeat constructor) | exact ldTΦ 1 3 rfl (by repeat constructor) | exact ldT 1 4 rfl (by repeat constructor) | exact ldTΦ 1 4 rfl (by repeat constructor) | exact ldT 1 5 rfl (by repeat constructor) | exact ldTΦ 1 5 rfl (by repeat constructor) | exact ldT 1 6 rfl (by repeat constructor) | exact ldO 0 rfl (by assumption) | exact ldO 1 rfl (by assumption) | exact ldO 2 rfl (by assumption) | exact ldO 3 rfl (by assumption) | exact ldOT 1 0 rfl (by assumption) (by repeat constructor) | exact ldOT 1 1 rfl (by assumption) (by repeat constructor) | exact ldOT 1 2 rfl (by assumption) (by repeat constructor) | exact ldOT 1 3 rfl (by assumption) (by repeat constructor)) | (first | exact ldO1 0 rfl (by assumption) rfl | exact ldO1 1 rfl (by assumption) rfl | exact ldO1 2 rfl (by assumption) rfl | exact ldO1 3 rfl (by assumption) rfl | exact ldO1 4 rfl (by assumption) rfl | exact ldO1 5 rfl (by assumption) rfl | exact ldM1 0 rfl (fun _ => rfl) (by assumption) rfl | exact ldM1 1 rfl (fun _ => rfl) (by assumption) rfl | exact ldM1 2 rfl (fun _ => rfl) (by assumption) rfl | exact ldM1 3 rfl (fun _ => rfl) (by assumption) rfl | exact ldM1 4 rfl (fun _ => rfl) (by assumption) rfl | exact ldM1 5 rfl (fun _ => rfl) (by assumption) rfl))) ?_  -- 4:0 cable.go:220 t28 load
    refine J.q rfl rfl rfl rfl (Q.len Try.underlying33 (.t 0 rfl)) ?_  -- 4:1 cable.go:220 t29 call
    refine J.q rfl rfl rfl rfl (Q.fa0 2 Try.underlying26 rfl Try.sizeOf24 rfl rfl (.t 4 rfl)) ?_  -- 4:2 cable.go:220 t30 fieldAddr
    refine J.q rfl rfl rfl rfl (Q.load (.t 0 rfl) Try.isAgg24 (by first | (first | exact ldT 1 0 rfl (by repeat constructor) | exact ldTΦ 1 0 rfl (by repeat constructor) | exact ldT 1 1 rfl (by repeat constructor) | exact ldTΦ 1 1 rfl (by repeat constructor) | exact ldT 1 2 rfl (by repeat constructor) | exact ldTΦ 1 2 rfl (by repeat constructor) | exact ldT 1 3 rfl (by repeat constructor) | exact ldTΦ 1 3 rfl (by repeat constructor) | exact ldT 1 4 rfl (by repeat constructor) | exact ldTΦ 1 4 rfl (by repeat constructor) | exact ldT 1 5 rfl (by repeat constructor) | exact ldTΦ 1 5 rfl (by repeat constructor) | exact ldT 1 6 rfl (by repeat constructor) | exact ldO 0 rfl (by assumption) | exact ldO 1 rfl (by assumption) | exact ldO 2 rfl (by assumption) | exact ldO 3 rfl (by assumption) | exact ldOT 1 0 rfl (by assumption) (by repeat constructor) | exact ldOT 1 1 rfl (by assumption) (by repeat constructor) | exact ldOT 1 2 rfl (by assumption) (by repeat constructor) | exact ldOT 1 3 rfl (by assumption) (by repeat constructor)) | (first | exact ldO1 0 rfl (by assumption) rfl | exact ldO1 1 rfl (by assumption) rfl | exact ldO1 2 rfl (by assumption) rfl | exact ldO1 3 rfl (by assumption) rfl | exact ldO1 4 rfl (by assumption) rfl | exact ldO1 5 rfl (by assumption) rfl | exact ldM1 0 rfl (fun _ => rfl) (by assumption) rfl | exact ldM1 1 rfl (fun _ => rfl) (by assumption) rfl | exact ldM1 2 rfl (fun _ => rfl) (by assumption) rfl | exact ldM1 3 rfl (fun _ => rfl) (by assumption) rfl | exact ldM1 4 rfl (fun _ => rfl) (by assumption) rfl | exact ldM1 5 rfl (fun _ => rfl) (by assumption) rfl))) ?_  -- 4:3 cable.go:220 t31 load
    refine J.q rfl rfl rfl rfl (Q.len Try.underlying24 (.t 0 rfl)) ?_  -- 4:4 cable.go:220 t32 call
    refine J.q rfl rfl rfl rfl (Q.neq (.t 3 rfl) (.t 0 rfl)) ?_  -- 4:5 cable.go:220 t33 binOp
    refine J.end_ ?_
    refine C.keep (.cons 0 rfl (.cons 6 rfl (.cons 7 rfl (.cons 8 rfl (.cons 9 rfl .nil))))) ?_
    refine C.cond (.t 0 rfl) (fun c1 => ?_) (fun c1 => ?_)  -- cond 1
    ·
      exact absurd c1 (by simp [hn])
    ·
      refine C.skip ?_
      refine X.go ?_
      refine C.keep (.cons 1 rfl (.cons 2 rfl (.cons 3 rfl (.cons 4 rfl .nil)))) ?_
      refine C.seq ?_
      refine C.seq ?_
      refine C.reg ?_
      refine J.q rfl rfl rfl rfl (Q.move (.t 0 rfl)) ?_  -- 6:0 cable.go:223 t34 move
      refine J.q rfl rfl rfl rfl (Q.move (.t 4 rfl)) ?_  -- 6:1 cable.go:223 t35 move
      refine J.callV rfl rfl rfl rfl (run_static Try.call24 .f (.cons (.t 1 rfl) (.cons (.t 0 rfl) .nil)) rfl) (fun w hA => checkAmps_calls w c _ cc t.p t.q qa qc reqs hn60 (hA.ok (r := bx t.p 82 (c.tcells (some ⟨b, o, none⟩) cc t.q)) 1 rfl) (hA.ok (r := rowO qa 1 enI reqs) 4 rfl)) ?_  -- 6:2 cable.go:223 t36 call
      refine J.q rfl rfl rfl rfl (Q.assign (.t 0 rfl)) ?_  -- 6:3 cable.go:223 t10 assign
      refine J.end_ ?_
      refine C.keep (.cons 0 rfl (.cons 4 rfl (.cons 5 rfl (.cons 6 rfl (.cons 7 rfl .nil))))) ?_
      refine C.seq ?_
      refine C.reg ?_
      refine J.q rfl rfl rfl rfl (Q.move (.t 0 rfl)) ?_  -- 7:0 cable.go:223 t37 move
      refine J.q rfl rfl rfl rfl (Q.neq (.t 0 rfl) .c) ?_  -- 7:1 cable.go:223 t38 binOp
      refine J.end_ ?_
      refine C.keep (.cons 0 rfl (.cons 2 rfl (.cons 3 rfl (.cons 4 rfl (.cons 5 rfl (.cons 6 rfl .nil)))))) ?_
      refine C.cond (.t 0 rfl) (fun c2 => ?_) (fun c2 => ?_)  -- cond 2
      ·
        refine C.seq ?_
        refine C.reg ?_
        refine J.q rfl rfl rfl rfl (Q.move (.t 1 rfl)) ?_  -- 8:0 cable.go:224 t39 move
        refine J.q rfl rfl rfl rfl (Q.assign .c) ?_  -- 8:1 cable.go:224 t6 assign
        refine J.q rfl rfl rfl rfl (Q.assign (.t 1 rfl)) ?_  -- 8:2 cable.go:224 t7 assign
        refine J.end_ ?_
        refine C.keep (.cons 0 rfl (.cons 1 rfl .nil)) ?_
        refine C.ret ?_
        refine X.thenRet ?_
        refine X.leave ?_
        refine XL.ret2 rfl 1 0 rfl rfl (fun w hA => ?_)
        exact PostV.eq hA rfl
      ·
        exact absurd c2 (by simp [ha])

theorem Share_ok (w : World) (c : Cable) (a : Option Addr) (cc : Nat) (hr : (rowO a 8 Nd.enc c.nodes).ok w) (qa : Option Addr) (qc : Nat) (reqs : List Int) (hq : (rowO qa 1 enI reqs).ok w) (ra : Option Addr) (rc : Nat) (ranks : List Int) (hk : (rowO ra 1 enI ranks).ok w) (hcc : c.nodes.length ≤ cc) (h : c.check = 0) (hn : ranks.length = c.nodes.length) (ha : ampsV c.nodes.length reqs = 0) : Calls Try.prog 9 [.agg (c.cells a cc).toArray, .slice qa reqs.length qc, .slice ra ranks.length rc].toArray w (PostN (fun x : Nat × List Int => IsOrder ranks x.2) (fun x => .tuple [.slice (some ⟨x.1, 0, none⟩) c.nodes.length c.nodes.length, .int .i64 0].toArray) (fun x => bx x.1 2 ((shareTo c reqs x.2).1.flatMap enI)) w) := by
  have hF := Fit.of h
  have hn0 := hF.pos
  have hn60 := hF.le
  obtain ⟨b, o, rfl⟩ := rowO.addr hr.1 (by omega)
  obtain ⟨hql, hqb⟩ := amps_ok ha
  refine Calls.enterM Try.func9 rfl rfl rfl ?_
  refine C.conseq (A' := St w no [] [rowO (some ⟨b, o, none⟩) 8 Nd.enc c.nodes, rowO qa 1 enI reqs, rowO ra 1 enI ranks]) (fun _ e => by subst e; exact St.init _ _ (by simp [hr, hq, hk])) ?_
  refine C.seq ?_
  refine C.reg ?_
  refine J.box rfl rfl rfl rfl (.t 0 rfl) rfl ?_; intro b3 hb3  -- 0:0 cable.go:215 t3 box
  refine J.box rfl rfl rfl rfl (.t 3 rfl) rfl ?_; intro b5 hb5  -- 0:1 cable.go:215 t5 box
  refine J.q rfl rfl rfl rfl (Q.assign .c) ?_  -- 0:2 cable.go:215 t6 assign
  refine J.q rfl rfl rfl rfl (Q.assign .c) ?_  -- 0:3 cable.go:215 t7 assign
  refine J.end_ ?_
  refine C.keep (.cons 2 rfl (.cons 3 rfl (.cons 5 rfl .nil))) ?_
  refine C.seq ?_
  refine C.reg ?_
  refine J.q rfl rfl rfl rfl (Q.loadsV (.t 1 rfl) ⟨Try.isAgg26, Try.sizeOf26⟩ (by first | (first | exact ldT 3 0 rfl (by repeat constructor) | exact ldTΦ 3 0 rfl (by repeat constructor) | exact ldT 3 1 rfl (by repeat constructor) | exact ldTΦ 3 1 rfl (by repeat constructor) | exact ldT 3 2 rfl (by repeat constructor) | exact ldTΦ 3 2 rfl (by repeat constructor) | exact ldT 3 3 rfl (by repeat constructor) | exact ldTΦ 3 3 rfl (by repeat constructor) | exact ldT 3 4 rfl (by repeat constructor) | exact ldTΦ 3 4 rfl (by repeat constructor) | exact ldT 3 5 rfl (by repeat constructor) | exact ldTΦ 3 5 rfl (by repeat constructor) | exact ldT 3 6 rfl (by repeat constructor) | exact ldO 0 rfl (by assumption) | exact ldO 1 rfl (by assumption) | exact ldO 2 rfl (by assumption) | exact ldO 3 rfl (by assumption) | exact ldOT 3 0 rfl (by assumption) (by repeat constructor) | exact ldOT 3 1 rfl (by assumption) (by repeat constructor) | exact ldOT 3 2 rfl (by assumption) (by repeat constructor) | exact ldOT 3 3 rfl (by assumption) (by repeat constructor)) | (first | exact ldO1 0 rfl (by assumption) rfl | exact ldO1 1 rfl (by assumption) rfl | exact ldO1 2 rfl (by assumption) rfl | exact ldO1 3 rfl (by assumption) rfl | exact ldO1 4 rfl (by assumption) rfl | exact ldO1 5 rfl (by assumption) rfl | exact ldM1 0 rfl (fun _ => rfl) (by assumption) rfl | exact ldM1 1 rfl (fun _ => rfl) (by assumption) rfl | exact ldM1 2 rfl (fun _ => rfl) (by assumption) rfl | exact ldM1 3 rfl (fun _ => rfl) (by assumption) rfl | exact ldM1 4 rfl (fun _ => rfl) (by assumption) rfl | exact ldM1 5 rfl (fun _ => rfl) (by assumption) rfl)) rfl) ?_  -- 1:0 cable.go:216 t21 load
  refine J.callS rfl rfl rfl rfl (run_static Try.call23 .f (.cons (.t 0 rfl) .nil) rfl) (fun w hA => open_ok w c _ cc (hA.ok (r := rowO _ 8 Nd.enc c.nodes) 0 rfl) hcc h) ?_  -- 1:1 cable.go:216 t22 call
  intro t ht
  refine openTree 0 rfl ?_
  refine J.q rfl rfl rfl rfl (Q.move (.t 0 rfl)) ?_  -- 1:2 cable.go:216 t20 move
  refine J.q rfl rfl rfl rfl (Q.extract (.t 0 rfl) rfl) ?_  -- 1:3 cable.go:216 t23 extract
  refine J.q rfl rfl rfl rfl (Q.extract (.t 1 rfl) rfl) ?_  -- 1:4 cable.go:216 t24 extract
  refine J.q rfl rfl rfl rfl (Q.assign (.t 1 rfl)) ?_  -- 1:5 cable.go:216 t8 assign
  refine J.q rfl rfl rfl rfl (Q.assign (.t 1 rfl)) ?_  -- 1:6 cable.go:216 t9 assign
  refine J.end_ ?_
  refine C.keep (.cons 0 rfl (.cons 1 rfl (.cons 7 rfl (.cons 8 rfl (.cons 9 rfl .nil))))) ?_
  refine C.seq ?_
  refine C.seq ?_
  refine C.reg ?_
  refine J.q rfl rfl rfl rfl (Q.move (.t 0 rfl)) ?_  -- 2:0 cable.go:217 t25 move
  refine J.q rfl rfl rfl rfl (Q.neq (.t 0 rfl) .c) ?_  -- 2:1 cable.go:217 t26 binOp
  refine J.end_ ?_
  refine C.keep (.cons 0 rfl (.cons 2 rfl (.cons 3 rfl (.cons 4 rfl (.cons 5 rfl (.cons 6 rfl .nil)))))) ?_
  refine C.cond (.t 0 rfl) (fun c0 => ?_) (fun c0 => ?_)  -- cond 0
  ·
    exact absurd c0 (by simp)
  ·
    refine C.skip ?_
    refine X.go ?_
    refine C.keep (.cons 2 rfl (.cons 3 rfl (.cons 4 rfl (.cons 5 rfl .nil)))) ?_
    refine C.seq ?_
    refine C.seq ?_
    refine C.reg ?_
    refine J.q rfl rfl rfl rfl (Q.load (.t 1 rfl) Try.isAgg33 (by first | (first | exact ldT 1 0 rfl (by repeat constructor) | exact ldTΦ 1 0 rfl (by repeat constructor) | exact ldT 1 1 rfl (by repeat constructor) | exact ldTΦ 1 1 rfl (by repeat constructor) | exact ldT 1 2 rfl (by repeat constructor) | exact ldTΦ 1 2 rfl (by repeat constructor) | exact ldT 1 3 rfl (by repeat constructor) | exact ldTΦ 1 3 rfl (by repeat constructor) | exact ldT 1 4 rfl (by repeat constructor) | exact ldTΦ 1 4 rfl (by repeat constructor) | exact ldT 1 5 rfl (by repeat constructor) | exact ldTΦ 1 5 rfl (by repeat constructor) | exact ldT 1 6 rfl (by repeat constructor) | exact ldO 0 rfl (by assumption) | exact ldO 1 rfl (by assumption) | exact ldO 2 rfl (by assumption) | exact ldO 3 rfl (by assumption) | exact ldOT 1 0 rfl (by assumption) (by repeat constructor) | exact ldOT 1 1 rfl (by assumption) (by repeat constructor) | exact ldOT 1 2 rfl (by assumption) (by repeat constructor) | exact ldOT 1 3 rfl (by assumption) (by repeat constructor)) | (first | exact ldO1 0 rfl (by assumption) rfl | exact ldO1 1 rfl (by assumption) rfl | exact ldO1 2 rfl (by assumption) rfl | exact ldO1 3 rfl (by assumption) rfl | exact ldO1 4 rfl (by assumption) rfl | exact ldO1 5 rfl (by assumption) rfl | exact ldM1 0 rfl (fun _ => rfl) (by assumption) rfl | exact ldM1 1 rfl (fun _ => rfl) (by assumption) rfl | exact ldM1 2 rfl (fun _ => rfl) (by assumption) rfl | exact ldM1 3 rfl (fun _ => rfl) (by assumption) rfl | exact ldM1 4 rfl (fun _ => rfl) (by assumption) rfl | exact ldM1 5 rfl (fun _ => rfl) (by assumption) rfl))) ?_  -- 4:0 cable.go:220 t28 load
    refine J.q rfl rfl rfl rfl (Q.len Try.underlying33 (.t 0 rfl)) ?_  -- 4:1 cable.go:220 t29 call
    refine J.q rfl rfl rfl rfl (Q.fa0 2 Try.underlying26 rfl Try.sizeOf24 rfl rfl (.t 4 rfl)) ?_  -- 4:2 cable.go:220 t30 fieldAddr
    refine J.q rfl rfl rfl rfl (Q.load (.t 0 rfl) Try.isAgg24 (by first | (first | exact ldT 1 0 rfl (by repeat constructor) | exact ldTΦ 1 0 rfl (by repeat constructor) | exact ldT 1 1 rfl (by repeat constructor) | exact ldTΦ 1 1 rfl (by repeat constructor) | exact ldT 1 2 rfl (by repeat constructor) | exact ldTΦ 1 2 rfl (by repeat constructor) | exact ldT 1 3 rfl (by repeat constructor) | exact ldTΦ 1 3 rfl (by repeat constructor) | exact ldT 1 4 rfl (by repeat constructor) | exact ldTΦ 1 4 rfl (by repeat constructor) | exact ldT 1 5 rfl (by repeat constructor) | exact ldTΦ 1 5 rfl (by repeat constructor) | exact ldT 1 6 rfl (by repeat constructor) | exact ldO 0 rfl (by assumption) | exact ldO 1 rfl (by assumption) | exact ldO 2 rfl (by assumption) | exact ldO 3 rfl (by assumption) | exact ldOT 1 0 rfl (by assumption) (by repeat constructor) | exact ldOT 1 1 rfl (by assumption) (by repeat constructor) | exact ldOT 1 2 rfl (by assumption) (by repeat constructor) | exact ldOT 1 3 rfl (by assumption) (by repeat constructor)) | (first | exact ldO1 0 rfl (by assumption) rfl | exact ldO1 1 rfl (by assumption) rfl | exact ldO1 2 rfl (by assumption) rfl | exact ldO1 3 rfl (by assumption) rfl | exact ldO1 4 rfl (by assumption) rfl | exact ldO1 5 rfl (by assumption) rfl | exact ldM1 0 rfl (fun _ => rfl) (by assumption) rfl | exact ldM1 1 rfl (fun _ => rfl) (by assumption) rfl | exact ldM1 2 rfl (fun _ => rfl) (by assumption) rfl | exact ldM1 3 rfl (fun _ => rfl) (by assumption) rfl | exact ldM1 4 rfl (fun _ => rfl) (by assumption) rfl | exact ldM1 5 rfl (fun _ => rfl) (by assumption) rfl))) ?_  -- 4:3 cable.go:220 t31 load
    refine J.q rfl rfl rfl rfl (Q.len Try.underlying24 (.t 0 rfl)) ?_  -- 4:4 cable.go:220 t32 call
    refine J.q rfl rfl rfl rfl (Q.neq (.t 3 rfl) (.t 0 rfl)) ?_  -- 4:5 cable.go:220 t33 binOp
    refine J.end_ ?_
    refine C.keep (.cons 0 rfl (.cons 6 rfl (.cons 7 rfl (.cons 8 rfl (.cons 9 rfl .nil))))) ?_
    refine C.cond (.t 0 rfl) (fun c1 => ?_) (fun c1 => ?_)  -- cond 1
    ·
      exact absurd c1 (by simp [hn])
    ·
      refine C.skip ?_
      refine X.go ?_
      refine C.keep (.cons 1 rfl (.cons 2 rfl (.cons 3 rfl (.cons 4 rfl .nil)))) ?_
      refine C.seq ?_
      refine C.seq ?_
      refine C.reg ?_
      refine J.q rfl rfl rfl rfl (Q.move (.t 0 rfl)) ?_  -- 6:0 cable.go:223 t34 move
      refine J.q rfl rfl rfl rfl (Q.move (.t 4 rfl)) ?_  -- 6:1 cable.go:223 t35 move
      refine J.callV rfl rfl rfl rfl (run_static Try.call24 .f (.cons (.t 1 rfl) (.cons (.t 0 rfl) .nil)) rfl) (fun w hA => checkAmps_calls w c _ cc t.p t.q qa qc reqs hn60 (hA.ok (r := bx t.p 82 (c.tcells (some ⟨b, o, none⟩) cc t.q)) 1 rfl) (hA.ok (r := rowO qa 1 enI reqs) 4 rfl)) ?_  -- 6:2 cable.go:223 t36 call
      refine J.q rfl rfl rfl rfl (Q.assign (.t 0 rfl)) ?_  -- 6:3 cable.go:223 t10 assign
      refine J.end_ ?_
      refine C.keep (.cons 0 rfl (.cons 4 rfl (.cons 5 rfl (.cons 6 rfl (.cons 7 rfl .nil))))) ?_
      refine C.seq ?_
      refine C.reg ?_
      refine J.q rfl rfl rfl rfl (Q.move (.t 0 rfl)) ?_  -- 7:0 cable.go:223 t37 move
      refine J.q rfl rfl rfl rfl (Q.neq (.t 0 rfl) .c) ?_  -- 7:1 cable.go:223 t38 binOp
      refine J.end_ ?_
      refine C.keep (.cons 0 rfl (.cons 2 rfl (.cons 3 rfl (.cons 4 rfl (.cons 5 rfl (.cons 6 rfl .nil)))))) ?_
      refine C.cond (.t 0 rfl) (fun c2 => ?_) (fun c2 => ?_)  -- cond 2
      ·
        exact absurd c2 (by simp [ha])
      ·
        refine C.skip ?_
        refine X.go ?_
        refine C.keep (.cons 2 rfl (.cons 3 rfl (.cons 4 rfl (.cons 5 rfl .nil)))) ?_
        refine C.cut_2 (d1 := 11) (d2 := 12) (fun g => .slice (some ⟨g.1, 0, none⟩) c.nodes.length c.nodes.length) (fun g => .pointer (some ⟨g.2.2, 0, none⟩)) (G := Nat × Nat × Nat) (.cons 0 rfl (.cons 1 rfl (.cons 2 rfl (.cons 3 rfl .nil)))) (fun g => St w no ([bx g.2.2 32 [.slice (some ⟨g.2.1, 0, none⟩) c.nodes.length c.nodes.length], bx g.2.1 2 ((List.replicate c.nodes.length (0 : Int)).flatMap enI), bx g.1 2 ((List.replicate c.nodes.length (0 : Int)).flatMap enI), bx b5 33 [.slice ra ranks.length rc], bx b3 26 (c.cells (some ⟨b, o, none⟩) cc)]) [needR c (some ⟨b, o, none⟩) cc t.p t.q, bx t.p 82 (c.tcells (some ⟨b, o, none⟩) cc t.q), bigR (t.res c (some ⟨b, o, none⟩) cc), rowO (some ⟨b, o, none⟩) 8 Nd.enc c.nodes, rowO qa 1 enI reqs, rowO ra 1 enI ranks]) ?_ ?_
        ·
          refine C.drawS ?_
          refine JC.q 0 rfl rfl rfl rfl (Q.fa0 2 Try.underlying26 rfl Try.sizeOf24 rfl rfl (.t 2 rfl)) ?_  -- 9:0 cable.go:226 t40 fieldAddr
          refine JC.q 1 rfl rfl rfl rfl (Q.load (.t 0 rfl) Try.isAgg24 (by first | (first | exact ldT 1 0 rfl (by repeat constructor) | exact ldTΦ 1 0 rfl (by repeat constructor) | exact ldT 1 1 rfl (by repeat constructor) | exact ldTΦ 1 1 rfl (by repeat constructor) | exact ldT 1 2 rfl (by repeat constructor) | exact ldTΦ 1 2 rfl (by repeat constructor) | exact ldT 1 3 rfl (by repeat constructor) | exact ldTΦ 1 3 rfl (by repeat constructor) | exact ldT 1 4 rfl (by repeat constructor) | exact ldTΦ 1 4 rfl (by repeat constructor) | exact ldT 1 5 rfl (by repeat constructor) | exact ldTΦ 1 5 rfl (by repeat constructor) | exact ldT 1 6 rfl (by repeat constructor) | exact ldO 0 rfl (by assumption) | exact ldO 1 rfl (by assumption) | exact ldO 2 rfl (by assumption) | exact ldO 3 rfl (by assumption) | exact ldOT 1 0 rfl (by assumption) (by repeat constructor) | exact ldOT 1 1 rfl (by assumption) (by repeat constructor) | exact ldOT 1 2 rfl (by assumption) (by repeat constructor) | exact ldOT 1 3 rfl (by assumption) (by repeat constructor)) | (first | exact ldO1 0 rfl (by assumption) rfl | exact ldO1 1 rfl (by assumption) rfl | exact ldO1 2 rfl (by assumption) rfl | exact ldO1 3 rfl (by assumption) rfl | exact ldO1 4 rfl (by assumption) rfl | exact ldO1 5 rfl (by assumption) rfl | exact ldM1 0 rfl (fun _ => rfl) (by assumption) rfl | exact ldM1 1 rfl (fun _ => rfl) (by assumption) rfl | exact ldM1 2 rfl (fun _ => rfl) (by assumption) rfl | exact ldM1 3 rfl (fun _ => rfl) (by assumption) rfl | exact ldM1 4 rfl (fun _ => rfl) (by assumption) rfl | exact ldM1 5 rfl (fun _ => rfl) (by assumption) rfl))) ?_  -- 9:1 cable.go:226 t41 load
          refine JC.q 2 rfl rfl rfl rfl (Q.len Try.underlying24 (.t 0 rfl)) ?_  -- 9:2 cable.go:226 t42 call
          refine JC.q 4 rfl rfl rfl rfl (Q.fa0 2 Try.underlying26 rfl Try.sizeOf24 rfl rfl (.t 5 rfl)) ?_  -- 9:4 cable.go:226 t44 fieldAddr
          refine JC.q 5 rfl rfl rfl rfl (Q.load (.t 0 rfl) Try.isAgg24 (by first | (first | exact ldT 1 0 rfl (by repeat constructor) | exact ldTΦ 1 0 rfl (by repeat constructor) | exact ldT 1 1 rfl (by repeat constructor) | exact ldTΦ 1 1 rfl (by repeat constructor) | exact ldT 1 2 rfl (by repeat constructor) | exact ldTΦ 1 2 rfl (by repeat constructor) | exact ldT 1 3 rfl (by repeat constructor) | exact ldTΦ 1 3 rfl (by repeat constructor) | exact ldT 1 4 rfl (by repeat constructor) | exact ldTΦ 1 4 rfl (by repeat constructor) | exact ldT 1 5 rfl (by repeat constructor) | exact ldTΦ 1 5 rfl (by repeat constructor) | exact ldT 1 6 rfl (by repeat constructor) | exact ldO 0 rfl (by assumption) | exact ldO 1 rfl (by assumption) | exact ldO 2 rfl (by assumption) | exact ldO 3 rfl (by assumption) | exact ldOT 1 0 rfl (by assumption) (by repeat constructor) | exact ldOT 1 1 rfl (by assumption) (by repeat constructor) | exact ldOT 1 2 rfl (by assumption) (by repeat constructor) | exact ldOT 1 3 rfl (by assumption) (by repeat constructor)) | (first | exact ldO1 0 rfl (by assumption) rfl | exact ldO1 1 rfl (by assumption) rfl | exact ldO1 2 rfl (by assumption) rfl | exact ldO1 3 rfl (by assumption) rfl | exact ldO1 4 rfl (by assumption) rfl | exact ldO1 5 rfl (by assumption) rfl | exact ldM1 0 rfl (fun _ => rfl) (by assumption) rfl | exact ldM1 1 rfl (fun _ => rfl) (by assumption) rfl | exact ldM1 2 rfl (fun _ => rfl) (by assumption) rfl | exact ldM1 3 rfl (fun _ => rfl) (by assumption) rfl | exact ldM1 4 rfl (fun _ => rfl) (by assumption) rfl | exact ldM1 5 rfl (fun _ => rfl) (by assumption) rfl))) ?_  -- 9:5 cable.go:226 t45 load
          refine JC.q 6 rfl rfl rfl rfl (Q.len Try.underlying24 (.t 0 rfl)) ?_  -- 9:6 cable.go:226 t46 call
          refine JC.tail [0, 1, 3, 7, 0, 16, 48, 112, 0, 271, 1023] 5 mixed (by kernel_rfl) (by kernel_rfl) (by (first | (exact fun _ h => h) | (exact fun _ h => h.dropM) | (exact fun _ h => h.dropM.dropM) | (exact fun _ h => h.sub (by (repeat (first | exact List.Sublist.refl _ | exact List.nil_sublist _ | apply List.Sublist.cons_cons | apply List.Sublist.cons)); done)) | (exact fun _ h => h.subΦ (fun i hi => List.mem_cons_of_mem _ hi)))) ?_
          refine JT.pick [3, 7, 8] (by kernel_rfl) (.cons (DStep.of rfl ?_) (.cons (DStep.of rfl ?_) (.cons (DStep.of rfl ?_) .nil)))
          ·
            refine J.mkS rfl rfl rfl rfl Try.underlying32 inf2 (by simp) (.t 3 rfl) (.t 3 rfl) (by omega) (by omega) ?_; intro b43 hb43  -- 9:3 cable.go:226 t43 makeSlice
            refine J.finD rfl rfl (by (first | (exact fun _ h => h) | (exact fun _ h => h.dropM) | (exact fun _ h => h.dropM.dropM) | (exact fun _ h => h.sub (by (repeat (first | exact List.Sublist.refl _ | exact List.nil_sublist _ | apply List.Sublist.cons_cons | apply List.Sublist.cons)); done)) | (exact fun _ h => h.subΦ (fun i hi => List.mem_cons_of_mem _ hi)))) ?_
            refine JT.pick [7, 8] (by kernel_rfl) (.cons (DStep.of rfl ?_) (.cons (DStep.of rfl ?_) .nil))
            ·
              refine J.mkS rfl rfl rfl rfl Try.underlying32 inf2 (by simp) (.t 1 rfl) (.t 1 rfl) (by omega) (by omega) ?_; intro b47 hb47  -- 9:7 cable.go:226 t47 makeSlice
              refine J.finD rfl rfl (by (first | (exact fun _ h => h) | (exact fun _ h => h.dropM) | (exact fun _ h => h.dropM.dropM) | (exact fun _ h => h.sub (by (repeat (first | exact List.Sublist.refl _ | exact List.nil_sublist _ | apply List.Sublist.cons_cons | apply List.Sublist.cons)); done)) | (exact fun _ h => h.subΦ (fun i hi => List.mem_cons_of_mem _ hi)))) ?_
              refine JT.pick [8] (by kernel_rfl) (.cons (DStep.of rfl ?_) .nil)
              refine J.alloc rfl rfl rfl rfl Try.zeroValue32 rfl ?_; intro b12 hb12  -- 9:8 cable.go:226 t12 alloc
              refine J.finD rfl rfl (by (first | (exact fun _ h => h) | (exact fun _ h => h.dropM) | (exact fun _ h => h.dropM.dropM) | (exact fun _ h => h.sub (by (repeat (first | exact List.Sublist.refl _ | exact List.nil_sublist _ | apply List.Sublist.cons_cons | apply List.Sublist.cons)); done)) | (exact fun _ h => h.subΦ (fun i hi => List.mem_cons_of_mem _ hi)))) ?_
              refine JT.pick [9] (by kernel_rfl) (.cons (DStep.of rfl ?_) .nil)
              refine J.q rfl rfl rfl rfl (Q.assign (.t 2 rfl)) ?_  -- 9:9 cable.go:226 t11 assign
              refine J.finD rfl rfl (by (first | (exact fun _ h => h) | (exact fun _ h => h.dropM) | (exact fun _ h => h.dropM.dropM) | (exact fun _ h => h.sub (by (repeat (first | exact List.Sublist.refl _ | exact List.nil_sublist _ | apply List.Sublist.cons_cons | apply List.Sublist.cons)); done)) | (exact fun _ h => h.subΦ (fun i hi => List.mem_cons_of_mem _ hi)))) ?_
              refine JT.pick [10] (by kernel_rfl) (.cons (DStep.of rfl ?_) .nil)
              refine J.s rfl rfl rfl (S.storeP (.t 1 rfl) (.t 2 rfl) Try.sizeOf32 rfl rfl (by (first | exact Nd.enc_one _ | (first | exact Span.enc_one _ | ((intro u hu; simp at hu; first | done | ((repeat' (rcases hu with rfl | hu)) <;> (try subst hu) <;> rfl)))))) (by (repeat (first | exact Upd.here | apply Upd.there))) (by (repeat constructor); done)) ?_  -- 9:10 cable.go:226 tNone store
              refine J.finF rfl rfl ?_
              refine JT.end_ ?_
              refine X.meet ((b43, b47, b12)) (.cons 0 (by (first | rfl | (simp; done))) (.cons 1 (by (first | rfl | (simp; done))) (.cons 10 (by (first | rfl | (simp; done))) (.cons 11 (by (first | rfl | (simp; done))) (.cons 12 (by (first | rfl | (simp; done))) (.cons 13 (by (first | rfl | (simp; done))) .nil)))))) ?_
              ·
                exact fun _ h => by rw [← flat_repI]; exact h.to (by (repeat (first | exact PermL.same | refine PermL.cons (by (repeat (first | exact Pick.here | apply Pick.there)); done) ?_ | exact PermL.drop | refine PermL.skip ?_)); done)
            ·
              refine J.alloc rfl rfl rfl rfl Try.zeroValue32 rfl ?_; intro b12 hb12  -- 9:8 cable.go:226 t12 alloc
              refine J.finD rfl rfl (by (first | (exact fun _ h => h) | (exact fun _ h => h.dropM) | (exact fun _ h => h.dropM.dropM) | (exact fun _ h => h.sub (by (repeat (first | exact List.Sublist.refl _ | exact List.nil_sublist _ | apply List.Sublist.cons_cons | apply List.Sublist.cons)); done)) | (exact fun _ h => h.subΦ (fun i hi => List.mem_cons_of_mem _ hi)))) ?_
              refine JT.pick [7, 9] (by kernel_rfl) (.cons (DStep.of rfl ?_) (.cons (DStep.of rfl ?_) .nil))
              ·
                refine J.mkS rfl rfl rfl rfl Try.underlying32 inf2 (by simp) (.t 2 rfl) (.t 2 rfl) (by omega) (by omega) ?_; intro b47 hb47  -- 9:7 cable.go:226 t47 makeSlice
                refine J.finD rfl rfl (by (first | (exact fun _ h => h) | (exact fun _ h => h.dropM) | (exact fun _ h => h.dropM.dropM) | (exact fun _ h => h.sub (by (repeat (first | exact List.Sublist.refl _ | exact List.nil_sublist _ | apply List.Sublist.cons_cons | apply List.Sublist.cons)); done)) | (exact fun _ h => h.subΦ (fun i hi => List.mem_cons_of_mem _ hi)))) ?_
                refine JT.pick [9] (by kernel_rfl) (.cons (DStep.of rfl ?_) .nil)
                refine J.q rfl rfl rfl rfl (Q.assign (.t 2 rfl)) ?_  -- 9:9 cable.go:226 t11 assign
                refine J.finD rfl rfl (by (first | (exact fun _ h => h) | (exact fun _ h => h.dropM) | (exact fun _ h => h.dropM.dropM) | (exact fun _ h => h.sub (by (repeat (first | exact List.Sublist.refl _ | exact List.nil_sublist _ | apply List.Sublist.cons_cons | apply List.Sublist.cons)); done)) | (exact fun _ h => h.subΦ (fun i hi => List.mem_cons_of_mem _ hi)))) ?_
                refine JT.pick [10] (by kernel_rfl) (.cons (DStep.of rfl ?_) .nil)
                refine J.s rfl rfl rfl (S.storeP (.t 2 rfl) (.t 1 rfl) Try.sizeOf32 rfl rfl (by (first | exact Nd.enc_one _ | (first | exact Span.enc_one _ | ((intro u hu; simp at hu; first | done | ((repeat' (rcases hu with rfl | hu)) <;> (try subst hu) <;> rfl)))))) (by (repeat (first | exact Upd.here | apply Upd.there))) (by (repeat constructor); done)) ?_  -- 9:10 cable.go:226 tNone store
                refine J.finF rfl rfl ?_
                refine JT.end_ ?_
                refine X.meet ((b43, b47, b12)) (.cons 0 (by (first | rfl | (simp; done))) (.cons 2 (by (first | rfl | (simp; done))) (.cons 10 (by (first | rfl | (simp; done))) (.cons 11 (by (first | rfl | (simp; done))) (.cons 12 (by (first | rfl | (simp; done))) (.cons 13 (by (first | rfl | (simp; done))) .nil)))))) ?_
                ·
                  exact fun _ h => by rw [← flat_repI]; exact h.to (by (repeat (first | exact PermL.same | refine PermL.cons (by (repeat (first | exact Pick.here | apply Pick.there)); done) ?_ | exact PermL.drop | refine PermL.skip ?_)); done)
              ·
                refine J.q rfl rfl rfl rfl (Q.assign (.t 1 rfl)) ?_  -- 9:9 cable.go:226 t11 assign
                refine J.finD rfl rfl (by (first | (exact fun _ h => h) | (exact fun _ h => h.dropM) | (exact fun _ h => h.dropM.dropM) | (exact fun _ h => h.sub (by (repeat (first | exact List.Sublist.refl _ | exact List.nil_sublist _ | apply List.Sublist.cons_cons | apply List.Sublist.cons)); done)) | (exact fun _ h => h.subΦ (fun i hi => List.mem_cons_of_mem _ hi)))) ?_
                refine JT.pick [7] (by kernel_rfl) (.cons (DStep.of rfl ?_) .nil)
                refine J.mkS rfl rfl rfl rfl Try.underlying32 inf2 (by simp) (.t 3 rfl) (.t 3 rfl) (by omega) (by omega) ?_; intro b47 hb47  -- 9:7 cable.go:226 t47 makeSlice
                refine J.finD rfl rfl (by (first | (exact fun _ h => h) | (exact fun _ h => h.dropM) | (exact fun _ h => h.dropM.dropM) | (exact fun _ h => h.sub (by (repeat (first | exact List.Sublist.refl _ | exact List.nil_sublist _ | apply List.Sublist.cons_cons | apply List.Sublist.cons)); done)) | (exact fun _ h => h.subΦ (fun i hi => List.mem_cons_of_mem _ hi)))) ?_
                refine JT.pick [10] (by kernel_rfl) (.cons (DStep.of rfl ?_) .nil)
                refine J.s rfl rfl rfl (S.storeP (.t 2 rfl) (.t 0 rfl) Try.sizeOf32 rfl rfl (by (first | exact Nd.enc_one _ | (first | exact Span.enc_one _ | ((intro u hu; simp at hu; first | done | ((repeat' (rcases hu with rfl | hu)) <;> (try subst hu) <;> rfl)))))) (by (repeat (first | exact Upd.here | apply Upd.there))) (by (repeat constructor); done)) ?_  -- 9:10 cable.go:226 tNone store
                refine J.finF rfl rfl ?_
                refine JT.end_ ?_
                refine X.meet ((b43, b47, b12)) (.cons 1 (by (first | rfl | (simp; done))) (.cons 2 (by (first | rfl | (simp; done))) (.cons 10 (by (first | rfl | (simp; done))) (.cons 11 (by (first | rfl | (simp; done))) (.cons 12 (by (first | rfl | (simp; done))) (.cons 13 (by (first | rfl | (simp; done))) .nil)))))) ?_
                ·
                  exact fun _ h => by rw [← flat_repI]; exact h.to (by (repeat (first | exact PermL.same | refine PermL.cons (by (repeat (first | exact Pick.here | apply Pick.there)); done) ?_ | exact PermL.drop | refine PermL.skip ?_)); done)
          ·
            refine J.mkS rfl rfl rfl rfl Try.underlying32 inf2 (by simp) (.t 0 rfl) (.t 0 rfl) (by omega) (by omega) ?_; intro b47 hb47  -- 9:7 cable.go:226 t47 makeSlice
            refine J.finD rfl rfl (by (first | (exact fun _ h => h) | (exact fun _ h => h.dropM) | (exact fun _ h => h.dropM.dropM) | (exact fun _ h => h.sub (by (repeat (first | exact List.Sublist.refl _ | exact List.nil_sublist _ | apply List.Sublist.cons_cons | apply List.Sublist.cons)); done)) | (exact fun _ h => h.subΦ (fun i hi => List.mem_cons_of_mem _ hi)))) ?_
            refine JT.pick [3, 8] (by kernel_rfl) (.cons (DStep.of rfl ?_) (.cons (DStep.of rfl ?_) .nil))
            ·
              refine J.mkS rfl rfl rfl rfl Try.underlying32 inf2 (by simp) (.t 4 rfl) (.t 4 rfl) (by omega) (by omega) ?_; intro b43 hb43  -- 9:3 cable.go:226 t43 makeSlice
              refine J.finD rfl rfl (by (first | (exact fun _ h => h) | (exact fun _ h => h.dropM) | (exact fun _ h => h.dropM.dropM) | (exact fun _ h => h.sub (by (repeat (first | exact List.Sublist.refl _ | exact List.nil_sublist _ | apply List.Sublist.cons_cons | apply List.Sublist.cons)); done)) | (exact fun _ h => h.subΦ (fun i hi => List.mem_cons_of_mem _ hi)))) ?_
              refine JT.pick [8] (by kernel_rfl) (.cons (DStep.of rfl ?_) .nil)
              refine J.alloc rfl rfl rfl rfl Try.zeroValue32 rfl ?_; intro b12 hb12  -- 9:8 cable.go:226 t12 alloc
              refine J.finD rfl rfl (by (first | (exact fun _ h => h) | (exact fun _ h => h.dropM) | (exact fun _ h => h.dropM.dropM) | (exact fun _ h => h.sub (by (repeat (first | exact List.Sublist.refl _ | exact List.nil_sublist _ | apply List.Sublist.cons_cons | apply List.Sublist.cons)); done)) | (exact fun _ h => h.subΦ (fun i hi => List.mem_cons_of_mem _ hi)))) ?_
              refine JT.pick [9] (by kernel_rfl) (.cons (DStep.of rfl ?_) .nil)
              refine J.q rfl rfl rfl rfl (Q.assign (.t 1 rfl)) ?_  -- 9:9 cable.go:226 t11 assign
              refine J.finD rfl rfl (by (first | (exact fun _ h => h) | (exact fun _ h => h.dropM) | (exact fun _ h => h.dropM.dropM) | (exact fun _ h => h.sub (by (repeat (first | exact List.Sublist.refl _ | exact List.nil_sublist _ | apply List.Sublist.cons_cons | apply List.Sublist.cons)); done)) | (exact fun _ h => h.subΦ (fun i hi => List.mem_cons_of_mem _ hi)))) ?_
              refine JT.pick [10] (by kernel_rfl) (.cons (DStep.of rfl ?_) .nil)
              refine J.s rfl rfl rfl (S.storeP (.t 1 rfl) (.t 3 rfl) Try.sizeOf32 rfl rfl (by (first | exact Nd.enc_one _ | (first | exact Span.enc_one _ | ((intro u hu; simp at hu; first | done | ((repeat' (rcases hu with rfl | hu)) <;> (try subst hu) <;> rfl)))))) (by (repeat (first | exact Upd.here | apply Upd.there))) (by (repeat constructor); done)) ?_  -- 9:10 cable.go:226 tNone store
              refine J.finF rfl rfl ?_
              refine JT.end_ ?_
              refine X.meet ((b43, b47, b12)) (.cons 0 (by (first | rfl | (simp; done))) (.cons 1 (by (first | rfl | (simp; done))) (.cons 10 (by (first | rfl | (simp; done))) (.cons 11 (by (first | rfl | (simp; done))) (.cons 12 (by (first | rfl | (simp; done))) (.cons 13 (by (first | rfl | (simp; done))) .nil)))))) ?_
              ·
                exact fun _ h => by rw [← flat_repI]; exact h.to (by (repeat (first | exact PermL.same | refine PermL.cons (by (repeat (first | exact Pick.here | apply Pick.there)); done) ?_ | exact PermL.drop | refine PermL.skip ?_)); done)
            ·
              refine J.alloc rfl rfl rfl rfl Try.zeroValue32 rfl ?_; intro b12 hb12  -- 9:8 cable.go:226 t12 alloc
              refine J.finD rfl rfl (by (first | (exact fun _ h => h) | (exact fun _ h => h.dropM) | (exact fun _ h => h.dropM.dropM) | (exact fun _ h => h.sub (by (repeat (first | exact List.Sublist.refl _ | exact List.nil_sublist _ | apply List.Sublist.cons_cons | apply List.Sublist.cons)); done)) | (exact fun _ h => h.subΦ (fun i hi => List.mem_cons_of_mem _ hi)))) ?_
              refine JT.pick [3] (by kernel_rfl) (.cons (DStep.of rfl ?_) .nil)
              refine J.mkS rfl rfl rfl rfl Try.underlying32 inf2 (by simp) (.t 5 rfl) (.t 5 rfl) (by omega) (by omega) ?_; intro b43 hb43  -- 9:3 cable.go:226 t43 makeSlice
              refine J.finD rfl rfl (by (first | (exact fun _ h => h) | (exact fun _ h => h.dropM) | (exact fun _ h => h.dropM.dropM) | (exact fun _ h => h.sub (by (repeat (first | exact List.Sublist.refl _ | exact List.nil_sublist _ | apply List.Sublist.cons_cons | apply List.Sublist.cons)); done)) | (exact fun _ h => h.subΦ (fun i hi => List.mem_cons_of_mem _ hi)))) ?_
              refine JT.pick [9] (by kernel_rfl) (.cons (DStep.of rfl ?_) .nil)
              refine J.q rfl rfl rfl rfl (Q.assign (.t 0 rfl)) ?_  -- 9:9 cable.go:226 t11 assign
              refine J.finD rfl rfl (by (first | (exact fun _ h => h) | (exact fun _ h => h.dropM) | (exact fun _ h => h.dropM.dropM) | (exact fun _ h => h.sub (by (repeat (first | exact List.Sublist.refl _ | exact List.nil_sublist _ | apply List.Sublist.cons_cons | apply List.Sublist.cons)); done)) | (exact fun _ h => h.subΦ (fun i hi => List.mem_cons_of_mem _ hi)))) ?_
              refine JT.pick [10] (by kernel_rfl) (.cons (DStep.of rfl ?_) .nil)
              refine J.s rfl rfl rfl (S.storeP (.t 2 rfl) (.t 3 rfl) Try.sizeOf32 rfl rfl (by (first | exact Nd.enc_one _ | (first | exact Span.enc_one _ | ((intro u hu; simp at hu; first | done | ((repeat' (rcases hu with rfl | hu)) <;> (try subst hu) <;> rfl)))))) (by (repeat (first | exact Upd.here | apply Upd.there))) (by (repeat constructor); done)) ?_  -- 9:10 cable.go:226 tNone store
              refine J.finF rfl rfl ?_
              refine JT.end_ ?_
              refine X.meet ((b43, b47, b12)) (.cons 0 (by (first | rfl | (simp; done))) (.cons 2 (by (first | rfl | (simp; done))) (.cons 10 (by (first | rfl | (simp; done))) (.cons 11 (by (first | rfl | (simp; done))) (.cons 12 (by (first | rfl | (simp; done))) (.cons 13 (by (first | rfl | (simp; done))) .nil)))))) ?_
              ·
                exact fun _ h => by rw [← flat_repI]; exact h.to (by (repeat (first | exact PermL.same | refine PermL.cons (by (repeat (first | exact Pick.here | apply Pick.there)); done) ?_ | exact PermL.drop | refine PermL.skip ?_)); done)
          ·
            refine J.alloc rfl rfl rfl rfl Try.zeroValue32 rfl ?_; intro b12 hb12  -- 9:8 cable.go:226 t12 alloc
            refine J.finD rfl rfl (by (first | (exact fun _ h => h) | (exact fun _ h => h.dropM) | (exact fun _ h => h.dropM.dropM) | (exact fun _ h => h.sub (by (repeat (first | exact List.Sublist.refl _ | exact List.nil_sublist _ | apply List.Sublist.cons_cons | apply List.Sublist.cons)); done)) | (exact fun _ h => h.subΦ (fun i hi => List.mem_cons_of_mem _ hi)))) ?_
            refine JT.pick [3, 7] (by kernel_rfl) (.cons (DStep.of rfl ?_) (.cons (DStep.of rfl ?_) .nil))
            ·
              refine J.mkS rfl rfl rfl rfl Try.underlying32 inf2 (by simp) (.t 4 rfl) (.t 4 rfl) (by omega) (by omega) ?_; intro b43 hb43  -- 9:3 cable.go:226 t43 makeSlice
              refine J.finD rfl rfl (by (first | (exact fun _ h => h) | (exact fun _ h => h.dropM) | (exact fun _ h => h.dropM.dropM) | (exact fun _ h => h.sub (by (repeat (first | exact List.Sublist.refl _ | exact List.nil_sublist _ | apply List.Sublist.cons_cons | apply List.Sublist.cons)); done)) | (exact fun _ h => h.subΦ (fun i hi => List.mem_cons_of_mem _ hi)))) ?_
              refine JT.pick [7, 9] (by kernel_rfl) (.cons (DStep.of rfl ?_) (.cons (DStep.of rfl ?_) .nil))
              ·
                refine J.mkS rfl rfl rfl rfl Try.underlying32 inf2 (by simp) (.t 2 rfl) (.t 2 rfl) (by omega) (by omega) ?_; intro b47 hb47  -- 9:7 cable.go:226 t47 makeSlice
                refine J.finD rfl rfl (by (first | (exact fun _ h => h) | (exact fun _ h => h.dropM) | (exact fun _ h => h.dropM.dropM) | (exact fun _ h => h.sub (by (repeat (first | exact List.Sublist.refl _ | exact List.nil_sublist _ | apply List.Sublist.cons_cons | apply List.Sublist.cons)); done)) | (exact fun _ h => h.subΦ (fun i hi => List.mem_cons_of_mem _ hi)))) ?_
                refine JT.pick [9] (by kernel_rfl) (.cons (DStep.of rfl ?_) .nil)
                refine J.q rfl rfl rfl rfl (Q.assign (.t 1 rfl)) ?_  -- 9:9 cable.go:226 t11 assign
                refine J.finD rfl rfl (by (first | (exact fun _ h => h) | (exact fun _ h => h.dropM) | (exact fun _ h => h.dropM.dropM) | (exact fun _ h => h.sub (by (repeat (first | exact List.Sublist.refl _ | exact List.nil_sublist _ | apply List.Sublist.cons_cons | apply List.Sublist.cons)); done)) | (exact fun _ h => h.subΦ (fun i hi => List.mem_cons_of_mem _ hi)))) ?_
                refine JT.pick [10] (by kernel_rfl) (.cons (DStep.of rfl ?_) .nil)
                refine J.s rfl rfl rfl (S.storeP (.t 3 rfl) (.t 1 rfl) Try.sizeOf32 rfl rfl (by (first | exact Nd.enc_one _ | (first | exact Span.enc_one _ | ((intro u hu; simp at hu; first | done | ((repeat' (rcases hu with rfl | hu)) <;> (try subst hu) <;> rfl)))))) (by (repeat (first | exact Upd.here | apply Upd.there))) (by (repeat constructor); done)) ?_  -- 9:10 cable.go:226 tNone store
                refine J.finF rfl rfl ?_
                refine JT.end_ ?_
                refine X.meet ((b43, b47, b12)) (.cons 0 (by (first | rfl | (simp; done))) (.cons 3 (by (first | rfl | (simp; done))) (.cons 10 (by (first | rfl | (simp; done))) (.cons 11 (by (first | rfl | (simp; done))) (.cons 12 (by (first | rfl | (simp; done))) (.cons 13 (by (first | rfl | (simp; done))) .nil)))))) ?_
                ·
                  exact fun _ h => by rw [← flat_repI]; exact h.to (by (repeat (first | exact PermL.same | refine PermL.cons (by (repeat (first | exact Pick.here | apply Pick.there)); done) ?_ | exact PermL.drop | refine PermL.skip ?_)); done)
              ·
                refine J.q rfl rfl rfl rfl (Q.assign (.t 0 rfl)) ?_  -- 9:9 cable.go:226 t11 assign
                refine J.finD rfl rfl (by (first | (exact fun _ h => h) | (exact fun _ h => h.dropM) | (exact fun _ h => h.dropM.dropM) | (exact fun _ h => h.sub (by (repeat (first | exact List.Sublist.refl _ | exact List.nil_sublist _ | apply List.Sublist.cons_cons | apply List.Sublist.cons)); done)) | (exact fun _ h => h.subΦ (fun i hi => List.mem_cons_of_mem _ hi)))) ?_
                refine JT.pick [7] (by kernel_rfl) (.cons (DStep.of rfl ?_) .nil)
                refine J.mkS rfl rfl rfl rfl Try.underlying32 inf2 (by simp) (.t 3 rfl) (.t 3 rfl) (by omega) (by omega) ?_; intro b47 hb47  -- 9:7 cable.go:226 t47 makeSlice
                refine J.finD rfl rfl (by (first | (exact fun _ h => h) | (exact fun _ h => h.dropM) | (exact fun _ h => h.dropM.dropM) | (exact fun _ h => h.sub (by (repeat (first | exact List.Sublist.refl _ | exact List.nil_sublist _ | apply List.Sublist.cons_cons | apply List.Sublist.cons)); done)) | (exact fun _ h => h.subΦ (fun i hi => List.mem_cons_of_mem _ hi)))) ?_
                refine JT.pick [10] (by kernel_rfl) (.cons (DStep.of rfl ?_) .nil)
                refine J.s rfl rfl rfl (S.storeP (.t 3 rfl) (.t 0 rfl) Try.sizeOf32 rfl rfl (by (first | exact Nd.enc_one _ | (first | exact Span.enc_one _ | ((intro u hu; simp at hu; first | done | ((repeat' (rcases hu with rfl | hu)) <;> (try subst hu) <;> rfl)))))) (by (repeat (first | exact Upd.here | apply Upd.there))) (by (repeat constructor); done)) ?_  -- 9:10 cable.go:226 tNone store
                refine J.finF rfl rfl ?_
                refine JT.end_ ?_
                refine X.meet ((b43, b47, b12)) (.cons 1 (by (first | rfl | (simp; done))) (.cons 3 (by (first | rfl | (simp; done))) (.cons 10 (by (first | rfl | (simp; done))) (.cons 11 (by (first | rfl | (simp; done))) (.cons 12 (by (first | rfl | (simp; done))) (.cons 13 (by (first | rfl | (simp; done))) .nil)))))) ?_
                ·
                  exact fun _ h => by rw [← flat_repI]; exact h.to (by (repeat (first | exact PermL.same | refine PermL.cons (by (repeat (first | exact Pick.here | apply Pick.there)); done) ?_ | exact PermL.drop | refine PermL.skip ?_)); done)
            ·
              refine J.mkS rfl rfl rfl rfl Try.underlying32 inf2 (by simp) (.t 1 rfl) (.t 1 rfl) (by omega) (by omega) ?_; intro b47 hb47  -- 9:7 cable.go:226 t47 makeSlice
              refine J.finD rfl rfl (by (first | (exact fun _ h => h) | (exact fun _ h => h.dropM) | (exact fun _ h => h.dropM.dropM) | (exact fun _ h => h.sub (by (repeat (first | exact List.Sublist.refl _ | exact List.nil_sublist _ | apply List.Sublist.cons_cons | apply List.Sublist.cons)); done)) | (exact fun _ h => h.subΦ (fun i hi => List.mem_cons_of_mem _ hi)))) ?_
              refine JT.pick [3] (by kernel_rfl) (.cons (DStep.of rfl ?_) .nil)
              refine J.mkS rfl rfl rfl rfl Try.underlying32 inf2 (by simp) (.t 5 rfl) (.t 5 rfl) (by omega) (by omega) ?_; intro b43 hb43  -- 9:3 cable.go:226 t43 makeSlice
              refine J.finD rfl rfl (by (first | (exact fun _ h => h) | (exact fun _ h => h.dropM) | (exact fun _ h => h.dropM.dropM) | (exact fun _ h => h.sub (by (repeat (first | exact List.Sublist.refl _ | exact List.nil_sublist _ | apply List.Sublist.cons_cons | apply List.Sublist.cons)); done)) | (exact fun _ h => h.subΦ (fun i hi => List.mem_cons_of_mem _ hi)))) ?_
              refine JT.pick [9] (by kernel_rfl) (.cons (DStep.of rfl ?_) .nil)
              refine J.q rfl rfl rfl rfl (Q.assign (.t 0 rfl)) ?_  -- 9:9 cable.go:226 t11 assign
              refine J.finD rfl rfl (by (first | (exact fun _ h => h) | (exact fun _ h => h.dropM) | (exact fun _ h => h.dropM.dropM) | (exact fun _ h => h.sub (by (repeat (first | exact List.Sublist.refl _ | exact List.nil_sublist _ | apply List.Sublist.cons_cons | apply List.Sublist.cons)); done)) | (exact fun _ h => h.subΦ (fun i hi => List.mem_cons_of_mem _ hi)))) ?_
              refine JT.pick [10] (by kernel_rfl) (.cons (DStep.of rfl ?_) .nil)
              refine J.s rfl rfl rfl (S.storeP (.t 3 rfl) (.t 2 rfl) Try.sizeOf32 rfl rfl (by (first | exact Nd.enc_one _ | (first | exact Span.enc_one _ | ((intro u hu; simp at hu; first | done | ((repeat' (rcases hu with rfl | hu)) <;> (try subst hu) <;> rfl)))))) (by (repeat (first | exact Upd.here | apply Upd.there))) (by (repeat constructor); done)) ?_  -- 9:10 cable.go:226 tNone store
              refine J.finF rfl rfl ?_
              refine JT.end_ ?_
              refine X.meet ((b43, b47, b12)) (.cons 0 (by (first | rfl | (simp; done))) (.cons 3 (by (first | rfl | (simp; done))) (.cons 10 (by (first | rfl | (simp; done))) (.cons 11 (by (first | rfl | (simp; done))) (.cons 12 (by (first | rfl | (simp; done))) (.cons 13 (by (first | rfl | (simp; done))) .nil)))))) ?_
              ·
                exact fun _ h => by rw [← flat_repI]; exact h.to (by (repeat (first | exact PermL.same | refine PermL.cons (by (repeat (first | exact Pick.here | apply Pick.there)); done) ?_ | exact PermL.drop | refine PermL.skip ?_)); done)
        ·
          rintro g1
          obtain ⟨g11, g12, g13⟩ := g1
          dsimp only
          refine C.seq ?_
          refine C.seq ?_
          refine C.reg ?_
          refine J.q rfl rfl rfl rfl (Q.fa0 2 Try.underlying26 rfl Try.sizeOf24 rfl rfl (.t 4 rfl)) ?_  -- 10:0 cable.go:227 t48 fieldAddr
          refine J.q rfl rfl rfl rfl (Q.load (.t 0 rfl) Try.isAgg24 (by first | (first | exact ldT 1 0 rfl (by repeat constructor) | exact ldTΦ 1 0 rfl (by repeat constructor) | exact ldT 1 1 rfl (by repeat constructor) | exact ldTΦ 1 1 rfl (by repeat constructor) | exact ldT 1 2 rfl (by repeat constructor) | exact ldTΦ 1 2 rfl (by repeat constructor) | exact ldT 1 3 rfl (by repeat constructor) | exact ldTΦ 1 3 rfl (by repeat constructor) | exact ldT 1 4 rfl (by repeat constructor) | exact ldTΦ 1 4 rfl (by repeat constructor) | exact ldT 1 5 rfl (by repeat constructor) | exact ldTΦ 1 5 rfl (by repeat constructor) | exact ldT 1 6 rfl (by repeat constructor) | exact ldO 0 rfl (by assumption) | exact ldO 1 rfl (by assumption) | exact ldO 2 rfl (by assumption) | exact ldO 3 rfl (by assumption) | exact ldOT 1 0 rfl (by assumption) (by repeat constructor) | exact ldOT 1 1 rfl (by assumption) (by repeat constructor) | exact ldOT 1 2 rfl (by assumption) (by repeat constructor) | exact ldOT 1 3 rfl (by assumption) (by repeat constructor)) | (first | exact ldO1 0 rfl (by assumption) rfl | exact ldO1 1 rfl (by assumption) rfl | exact ldO1 2 rfl (by assumption) rfl | exact ldO1 3 rfl (by assumption) rfl | exact ldO1 4 rfl (by assumption) rfl | exact ldO1 5 rfl (by assumption) rfl | exact ldM1 0 rfl (fun _ => rfl) (by assumption) rfl | exact ldM1 1 rfl (fun _ => rfl) (by assumption) rfl | exact ldM1 2 rfl (fun _ => rfl) (by assumption) rfl | exact ldM1 3 rfl (fun _ => rfl) (by assumption) rfl | exact ldM1 4 rfl (fun _ => rfl) (by assumption) rfl | exact ldM1 5 rfl (fun _ => rfl) (by assumption) rfl))) ?_  -- 10:1 cable.go:227 t49 load
          refine J.q rfl rfl rfl rfl (Q.len Try.underlying24 (.t 0 rfl)) ?_  -- 10:2 cable.go:227 t50 call
          refine J.q rfl rfl rfl rfl (Q.move .c) ?_  -- 10:3 cable.go:227 t51 move
          refine J.end_ ?_
          refine C.keep (.cons 0 rfl (.cons 1 rfl (.cons 2 rfl (.cons 4 rfl (.cons 5 rfl (.cons 6 rfl (.cons 7 rfl (.cons 9 rfl .nil)))))))) ?_
          refine C.block ?_
          refine C.loop_1 (fun i => .int .i64 (i.1 : Int)) (G := { i : Nat // i ≤ c.nodes.length }) (fun i => St w no ([bx g13 32 [.slice (some ⟨g12, 0, none⟩) c.nodes.length c.nodes.length], bx g12 2 ((limTo c i.1).flatMap enI), bx g11 2 ((List.replicate c.nodes.length (0 : Int)).flatMap enI), bx b5 33 [.slice ra ranks.length rc], bx b3 26 (c.cells (some ⟨b, o, none⟩) cc)]) [needR c (some ⟨b, o, none⟩) cc t.p t.q, bx t.p 82 (c.tcells (some ⟨b, o, none⟩) cc t.q), bigR (t.res c (some ⟨b, o, none⟩) cc), rowO (some ⟨b, o, none⟩) 8 Nd.enc c.nodes, rowO qa 1 enI reqs, rowO ra 1 enI ranks]) (fun i => c.nodes.length - i.1) (⟨0, by simp⟩) (by (first | rfl | (simp; done))) ?_ ?_
          ·
            exact fun _ h => by rw [limTo_zero]; exact h
          ·
            rintro ⟨i, hi⟩
            dsimp only
            refine C.seq ?_
            refine C.reg ?_
            refine J.q rfl rfl rfl rfl (Q.lss (.t 0 rfl) (.t 1 rfl)) ?_  -- 11:0 cable.go:227 t52 binOp
            refine J.end_ ?_
            refine C.seq ?_
            refine C.cond (.t 0 rfl) (fun c3 => ?_) (fun c3 => ?_)  -- cond 3
            ·
              simp only [decide_eq_true_eq, decide_eq_false_iff_not, Bool.and_eq_true, Bool.or_eq_true, Bool.and_eq_false_iff, Bool.or_eq_false_iff, Bool.not_eq_true', Bool.not_eq_false', beq_iff_eq, bne_iff_ne, Int.not_lt, Int.not_le, Decidable.not_not, ne_eq] at c3
              have hlt : i < c.nodes.length := by omega
              obtain ⟨nd, hx⟩ := get_lt hlt
              have hlim : c.lim i = nd.limit := by simp [Cable.lim, hx]
              refine C.skip ?_
              refine X.go ?_
              refine C.keep (.cons 1 rfl (.cons 2 rfl (.cons 3 rfl (.cons 4 rfl (.cons 5 rfl (.cons 6 rfl (.cons 7 rfl (.cons 8 rfl .nil)))))))) ?_
              refine C.seq ?_
              refine C.block ?_
              refine C.seq ?_
              refine C.reg ?_
              refine J.q rfl rfl rfl rfl (Q.move (.t 0 rfl)) ?_  -- 12:0 cable.go:227 t53 move
              refine J.q rfl rfl rfl rfl (Q.indexAddr Try.underlying24 Try.sizeOf40 (.t 3 rfl) (.t 1 rfl) (by omega)) ?_  -- 12:1 cable.go:227 t54 indexAddr
              refine J.q rfl rfl rfl rfl (Q.loadsV (.t 0 rfl) ⟨Try.isAgg40, Try.sizeOf40⟩ (by exact ldO 3 rfl hx) rfl) ?_  -- 12:2 cable.go:227 t55 load
              refine J.alloc rfl rfl rfl rfl Try.zeroValue40 rfl ?_; intro b14 hb14  -- 12:3 cable.go:227 t14 alloc
              refine J.q rfl rfl rfl rfl (Q.assign (.t 3 rfl)) ?_  -- 12:4 cable.go:227 t13 assign
              refine J.s rfl rfl rfl (S.storeP (.t 1 rfl) (.t 2 rfl) Try.sizeOf40 rfl rfl (by (first | exact Nd.enc_one _ | (first | exact Span.enc_one _ | ((intro u hu; simp at hu; first | done | ((repeat' (rcases hu with rfl | hu)) <;> (try subst hu) <;> rfl)))))) (by (repeat (first | exact Upd.here | apply Upd.there))) (by (repeat constructor); done)) ?_  -- 12:5 cable.go:227 tNone store
              refine J.end_ ?_
              refine C.keep (.cons 0 rfl (.cons 1 rfl (.cons 5 rfl (.cons 6 rfl (.cons 7 rfl (.cons 8 rfl (.cons 9 rfl (.cons 10 rfl (.cons 11 rfl (.cons 12 rfl .nil)))))))))) ?_
              refine C.reg ?_
              refine J.q rfl rfl rfl rfl (Q.load (.t 6 rfl) Try.isAgg32 (by first | (first | exact ldT 1 0 rfl (by repeat constructor) | exact ldTΦ 1 0 rfl (by repeat constructor) | exact ldT 1 1 rfl (by repeat constructor) | exact ldTΦ 1 1 rfl (by repeat constructor) | exact ldT 1 2 rfl (by repeat constructor) | exact ldTΦ 1 2 rfl (by repeat constructor) | exact ldT 1 3 rfl (by repeat constructor) | exact ldTΦ 1 3 rfl (by repeat constructor) | exact ldT 1 4 rfl (by repeat constructor) | exact ldTΦ 1 4 rfl (by repeat constructor) | exact ldT 1 5 rfl (by repeat constructor) | exact ldTΦ 1 5 rfl (by repeat constructor) | exact ldT 1 6 rfl (by repeat constructor) | exact ldO 0 rfl (by assumption) | exact ldO 1 rfl (by assumption) | exact ldO 2 rfl (by assumption) | exact ldO 3 rfl (by assumption) | exact ldOT 1 0 rfl (by assumption) (by repeat constructor) | exact ldOT 1 1 rfl (by assumption) (by repeat constructor) | exact ldOT 1 2 rfl (by assumption) (by repeat constructor) | exact ldOT 1 3 rfl (by assumption) (by repeat constructor)) | (first | exact ldO1 0 rfl (by assumption) rfl | exact ldO1 1 rfl (by assumption) rfl | exact ldO1 2 rfl (by assumption) rfl | exact ldO1 3 rfl (by assumption) rfl | exact ldO1 4 rfl (by assumption) rfl | exact ldO1 5 rfl (by assumption) rfl | exact ldM1 0 rfl (fun _ => rfl) (by assumption) rfl | exact ldM1 1 rfl (fun _ => rfl) (by assumption) rfl | exact ldM1 2 rfl (fun _ => rfl) (by assumption) rfl | exact ldM1 3 rfl (fun _ => rfl) (by assumption) rfl | exact ldM1 4 rfl (fun _ => rfl) (by assumption) rfl | exact ldM1 5 rfl (fun _ => rfl) (by assumption) rfl))) ?_  -- 13:0 cable.go:228 t56 load
              refine J.q rfl rfl rfl rfl (Q.move (.t 1 rfl)) ?_  -- 13:1 cable.go:228 t57 move
              refine J.q rfl rfl rfl rfl (Q.fa0 3 Try.underlying40 rfl Try.sizeOf2 rfl rfl (.t 3 rfl)) ?_  -- 13:2 cable.go:228 t58 fieldAddr
              refine J.q rfl rfl rfl rfl (Q.load (.t 0 rfl) Try.isAgg2 (by first | (first | exact ldT 1 0 rfl (by repeat constructor) | exact ldTΦ 1 0 rfl (by repeat constructor) | exact ldT 1 1 rfl (by repeat constructor) | exact ldTΦ 1 1 rfl (by repeat constructor) | exact ldT 1 2 rfl (by repeat constructor) | exact ldTΦ 1 2 rfl (by repeat constructor) | exact ldT 1 3 rfl (by repeat constructor) | exact ldTΦ 1 3 rfl (by repeat constructor) | exact ldT 1 4 rfl (by repeat constructor) | exact ldTΦ 1 4 rfl (by repeat constructor) | exact ldT 1 5 rfl (by repeat constructor) | exact ldTΦ 1 5 rfl (by repeat constructor) | exact ldT 1 6 rfl (by repeat constructor) | exact ldO 0 rfl (by assumption) | exact ldO 1 rfl (by assumption) | exact ldO 2 rfl (by assumption) | exact ldO 3 rfl (by assumption) | exact ldOT 1 0 rfl (by assumption) (by repeat constructor) | exact ldOT 1 1 rfl (by assumption) (by repeat constructor) | exact ldOT 1 2 rfl (by assumption) (by repeat constructor) | exact ldOT 1 3 rfl (by assumption) (by repeat constructor)) | (first | exact ldO1 0 rfl (by assumption) rfl | exact ldO1 1 rfl (by assumption) rfl | exact ldO1 2 rfl (by assumption) rfl | exact ldO1 3 rfl (by assumption) rfl | exact ldO1 4 rfl (by assumption) rfl | exact ldO1 5 rfl (by assumption) rfl | exact ldM1 0 rfl (fun _ => rfl) (by assumption) rfl | exact ldM1 1 rfl (fun _ => rfl) (by assumption) rfl | exact ldM1 2 rfl (fun _ => rfl) (by assumption) rfl | exact ldM1 3 rfl (fun _ => rfl) (by assumption) rfl | exact ldM1 4 rfl (fun _ => rfl) (by assumption) rfl | exact ldM1 5 rfl (fun _ => rfl) (by assumption) rfl))) ?_  -- 13:3 cable.go:228 t59 load
              refine J.q rfl rfl rfl rfl (Q.indexAddr Try.underlying32 Try.sizeOf2 (.t 3 rfl) (.t 2 rfl) (by omega)) ?_  -- 13:4 cable.go:228 t60 indexAddr
              refine J.s rfl rfl rfl (S.storeR (enc := enI) (e := nd.limit) (.t 0 rfl) (.t 1 rfl) Try.sizeOf2 (fun _ => rfl) rfl rfl (by (first | exact Nd.enc_one _ | (first | exact Span.enc_one _ | ((intro u hu; simp at hu; first | done | ((repeat' (rcases hu with rfl | hu)) <;> (try subst hu) <;> rfl)))))) (by (repeat (first | exact Upd.here | apply Upd.there))) (by rw [limTo, List.length_map, List.length_range]; omega)) ?_
              refine J.done ?_
              refine X.inNormal ?_
              refine X.go ?_
              refine C.keep (.cons 7 rfl (.cons 8 rfl (.cons 9 rfl (.cons 10 rfl (.cons 11 rfl (.cons 12 rfl (.cons 13 rfl (.cons 14 rfl .nil)))))))) ?_
              refine C.reg ?_
              refine J.q rfl rfl rfl rfl (Q.add (.t 0 rfl) .c (by omega)) ?_  -- 14:0 cable.go:227 t61 binOp
              refine J.keep (.cons 0 rfl (.cons 2 rfl (.cons 3 rfl (.cons 4 rfl (.cons 5 rfl (.cons 6 rfl (.cons 7 rfl (.cons 8 rfl .nil)))))))) ?_
              refine J.q rfl rfl rfl rfl (Q.move (.t 0 rfl)) ?_  -- 14:1 cable.go:227 t51 move
              refine J.done ?_
              refine X.nx (⟨i + 1, by omega⟩) (.cons 0 (by (first | rfl | (simp; done))) (.cons 2 (by (first | rfl | (simp; done))) (.cons 3 (by (first | rfl | (simp; done))) (.cons 4 (by (first | rfl | (simp; done))) (.cons 5 (by (first | rfl | (simp; done))) (.cons 6 (by (first | rfl | (simp; done))) (.cons 7 (by (first | rfl | (simp; done))) (.cons 8 (by (first | rfl | (simp; done))) .nil)))))))) ?_ ?_
              ·
                exact fun _ h => by rw [← limTo_next, hlim]; exact h.dropM
              ·
                simp; omega
            ·
              simp only [decide_eq_true_eq, decide_eq_false_iff_not, Bool.and_eq_true, Bool.or_eq_true, Bool.and_eq_false_iff, Bool.or_eq_false_iff, Bool.not_eq_true', Bool.not_eq_false', beq_iff_eq, bne_iff_ne, Int.not_lt, Int.not_le, Decidable.not_not, ne_eq] at c3
              refine C.exit ?_
              refine X.thenExit ?_
              refine X.thenExit ?_
              refine X.inHit ?_
              refine X.go ?_
              refine C.keep (.cons 4 rfl (.cons 5 rfl (.cons 6 rfl (.cons 7 rfl (.cons 8 rfl .nil))))) ?_
              refine C.seq ?_
              refine C.seq ?_
              refine C.reg ?_
              refine J.q rfl rfl rfl rfl (Q.load (.t 3 rfl) Try.isAgg33 (by first | (first | exact ldT 1 0 rfl (by repeat constructor) | exact ldTΦ 1 0 rfl (by repeat constructor) | exact ldT 1 1 rfl (by repeat constructor) | exact ldTΦ 1 1 rfl (by repeat constructor) | exact ldT 1 2 rfl (by repeat constructor) | exact ldTΦ 1 2 rfl (by repeat constructor) | exact ldT 1 3 rfl (by repeat constructor) | exact ldTΦ 1 3 rfl (by repeat constructor) | exact ldT 1 4 rfl (by repeat constructor) | exact ldTΦ 1 4 rfl (by repeat constructor) | exact ldT 1 5 rfl (by repeat constructor) | exact ldTΦ 1 5 rfl (by repeat constructor) | exact ldT 1 6 rfl (by repeat constructor) | exact ldO 0 rfl (by assumption) | exact ldO 1 rfl (by assumption) | exact ldO 2 rfl (by assumption) | exact ldO 3 rfl (by assumption) | exact ldOT 1 0 rfl (by assumption) (by repeat constructor) | exact ldOT 1 1 rfl (by assumption) (by repeat constructor) | exact ldOT 1 2 rfl (by assumption) (by repeat constructor) | exact ldOT 1 3 rfl (by assumption) (by repeat constructor)) | (first | exact ldO1 0 rfl (by assumption) rfl | exact ldO1 1 rfl (by assumption) rfl | exact ldO1 2 rfl (by assumption) rfl | exact ldO1 3 rfl (by assumption) rfl | exact ldO1 4 rfl (by assumption) rfl | exact ldO1 5 rfl (by assumption) rfl | exact ldM1 0 rfl (fun _ => rfl) (by assumption) rfl | exact ldM1 1 rfl (fun _ => rfl) (by assumption) rfl | exact ldM1 2 rfl (fun _ => rfl) (by assumption) rfl | exact ldM1 3 rfl (fun _ => rfl) (by assumption) rfl | exact ldM1 4 rfl (fun _ => rfl) (by assumption) rfl | exact ldM1 5 rfl (fun _ => rfl) (by assumption) rfl))) ?_  -- 15:0 cable.go:230 t62 load
              refine J.q rfl rfl rfl rfl (Q.len Try.underlying33 (.t 0 rfl)) ?_  -- 15:1 cable.go:230 t63 call
              refine J.q rfl rfl rfl rfl (Q.makeFunc .nil (.cons (.t 5 rfl) .nil)) ?_  -- 15:2 cable.go:230 t64 makeFunc
              refine J.callN rfl rfl rfl rfl (run_static Try.call25 .f (.cons (.t 1 rfl) (.cons (.t 0 rfl) .nil)) rfl) (fun w hA => sorted_calls w b5 ra rc ranks (hA.okM (r := bx b5 33 [.slice ra ranks.length rc]) 3 rfl) (hA.ok (r := rowO ra 1 enI ranks) 5 rfl) (by omega) (by omega)) ?_  -- 15:3 cable.go:230 t65 call
              intro x hx0
              have hxl := hx0.length
              have hxm := hx0.mem
              refine J.q rfl rfl rfl rfl (Q.len Try.underlying33 (.t 0 rfl)) ?_  -- 15:4 cable.go:230 t66 call
              refine J.q rfl rfl rfl rfl (Q.move .c) ?_  -- 15:5 cable.go:230 t67 move
              refine J.end_ ?_
              refine C.keep (.cons 0 rfl (.cons 1 rfl (.cons 2 rfl (.cons 6 rfl (.cons 7 rfl (.cons 8 rfl (.cons 10 rfl .nil))))))) ?_
              refine C.block ?_
              refine C.loopD_1 (fun g => .int .i64 (g.1.1 : Int)) (G := { g : Nat × (List Int × List Int) × List Nat // g.1 ≤ x.2.length ∧ g.2.1 = shareTo c reqs (x.2.take g.1) ∧ g.2.1.1.length = c.nodes.length ∧ g.2.1.2.length = c.nodes.length ∧ ∀ z ∈ g.2.1.2, 0 ≤ z ∧ z ≤ 3932160 }) (fun g => g.1.2.2.map mk) (fun g => St w no ([bx g13 32 [.slice (some ⟨g12, 0, none⟩) c.nodes.length c.nodes.length], bx g12 2 (g.1.2.1.2.flatMap enI), bx g11 2 (g.1.2.1.1.flatMap enI), bx b5 33 [.slice ra ranks.length rc], bx b3 26 (c.cells (some ⟨b, o, none⟩) cc), bx x.1 3 (x.2.flatMap enI)] ++ g.1.2.2.map om) [needR c (some ⟨b, o, none⟩) cc t.p t.q, bx t.p 82 (c.tcells (some ⟨b, o, none⟩) cc t.q), bigR (t.res c (some ⟨b, o, none⟩) cc), rowO (some ⟨b, o, none⟩) 8 Nd.enc c.nodes, rowO qa 1 enI reqs, rowO ra 1 enI ranks]) (fun g => x.2.length - g.1.1) (⟨(0, (List.replicate c.nodes.length 0, lims c), []), by simp, rfl, by simp, by simp [lims, limTo], lims_bound hF⟩) rfl (by (first | rfl | (simp; done))) ?_ ?_
              ·
                exact fun _ h => by rw [show i = c.nodes.length by omega] at h; exact h.to (by (repeat (first | exact PermL.same | refine PermL.cons (by (repeat (first | exact Pick.here | apply Pick.there)); done) ?_ | exact PermL.drop | refine PermL.skip ?_)); done)
              ·
                rintro ⟨⟨j0, ⟨gr, left⟩, ms⟩, hi, hs, hgl, hll, hlb⟩
                dsimp only
                dsimp only at hi hs hgl hll hlb
                refine C.seq ?_
                refine C.reg ?_
                refine J.q rfl rfl rfl rfl (Q.lss (.t 0 rfl) (.t 1 rfl)) ?_  -- 16:0 cable.go:230 t68 binOp
                refine J.end_ ?_
                refine C.seq ?_
                refine C.cond (.t 0 rfl) (fun c4 => ?_) (fun c4 => ?_)  -- cond 4
                ·
                  simp only [decide_eq_true_eq, decide_eq_false_iff_not, Bool.and_eq_true, Bool.or_eq_true, Bool.and_eq_false_iff, Bool.or_eq_false_iff, Bool.not_eq_true', Bool.not_eq_false', beq_iff_eq, bne_iff_ne, Int.not_lt, Int.not_le, Decidable.not_not, ne_eq] at c4
                  have hlt : j0 < x.2.length := by omega
                  obtain ⟨k, hyk⟩ := get_lt hlt
                  obtain ⟨hk0, hk1⟩ := hxm k (List.mem_of_getElem? hyk)
                  obtain ⟨rq, hrq⟩ := get_lt (xs := reqs) (i := k.toNat) (by omega)
                  have hrb := hqb rq (List.mem_of_getElem? hrq)
                  obtain ⟨bq, oq, rfl⟩ := rowO.addr hq.1 (by omega)
                  refine C.skip ?_
                  refine X.go ?_
                  refine C.keep (.cons 1 rfl (.cons 2 rfl (.cons 3 rfl (.cons 4 rfl (.cons 5 rfl (.cons 6 rfl (.cons 7 rfl .nil))))))) ?_
                  refine C.seq ?_
                  refine C.block ?_
                  refine C.seq ?_
                  refine C.reg ?_
                  refine J.q rfl rfl rfl rfl (Q.indexAddr Try.underlying33 Try.sizeOf3 (.t 2 rfl) (.t 0 rfl) (by omega)) ?_  -- 17:0 cable.go:230 t69 indexAddr
                  refine J.q rfl rfl rfl rfl (Q.load (.t 0 rfl) Try.isAgg3 (by exact ldM1 5 rfl (fun _ => rfl) hyk rfl)) ?_  -- 17:1 cable.go:230 t70 load
                  refine J.q rfl rfl rfl rfl (Q.assign (.t 0 rfl)) ?_  -- 17:2 cable.go:230 t16 assign
                  refine J.end_ ?_
                  refine C.keep (.cons 0 rfl (.cons 3 rfl (.cons 4 rfl (.cons 5 rfl (.cons 6 rfl (.cons 7 rfl (.cons 8 rfl (.cons 9 rfl .nil)))))))) ?_
                  refine C.seq ?_
                  refine C.reg ?_
                  refine J.q rfl rfl rfl rfl (Q.move (.t 7 rfl)) ?_  -- 18:0 cable.go:231 t71 move
                  refine J.q rfl rfl rfl rfl (Q.move (.t 1 rfl)) ?_  -- 18:1 cable.go:231 t72 move
                  refine J.q rfl rfl rfl rfl (Q.indexAddr Try.underlying32 Try.sizeOf2 (.t 1 rfl) (.t 0 rfl) (by omega)) ?_  -- 18:2 cable.go:231 t73 indexAddr
                  refine J.q rfl rfl rfl rfl (Q.load (.t 0 rfl) Try.isAgg2 (by exact ldO1 4 rfl hrq rfl)) ?_  -- 18:3 cable.go:231 t74 load
                  refine J.alloc rfl rfl rfl rfl Try.zeroValue2 rfl ?_; intro b17 hb17  -- 18:4 cable.go:231 t17 alloc
                  refine J.s rfl rfl rfl (S.storeP (.t 0 rfl) (.t 1 rfl) Try.sizeOf2 rfl rfl (by (first | exact Nd.enc_one _ | (first | exact Span.enc_one _ | ((intro u hu; simp at hu; first | done | ((repeat' (rcases hu with rfl | hu)) <;> (try subst hu) <;> rfl)))))) (by (repeat (first | exact Upd.here | apply Upd.there))) (by (repeat constructor); done)) ?_  -- 18:5 cable.go:231 tNone store
                  refine J.end_ ?_
                  refine C.keep (.cons 0 rfl (.cons 5 rfl (.cons 6 rfl (.cons 7 rfl (.cons 8 rfl (.cons 9 rfl (.cons 10 rfl (.cons 11 rfl (.cons 12 rfl .nil))))))))) ?_
                  refine C.seq ?_
                  refine C.seq ?_
                  refine C.reg ?_
                  refine J.q rfl rfl rfl rfl (Q.move (.t 7 rfl)) ?_  -- 19:0 cable.go:232 t75 move
                  refine J.q rfl rfl rfl rfl (Q.move (.t 2 rfl)) ?_  -- 19:1 cable.go:232 t76 move
                  refine J.callNF rfl rfl rfl rfl (run_static Try.call27 .f (.cons (.t 1 rfl) (.cons (.t 0 rfl) .nil)) rfl) (fun w hA => up_calls w t.p k) ?_  -- 19:2 cable.go:232 t77 call
                  intro x2 _ hnew
                  refine J.end_ ?_
                  refine C.keep (.cons 0 rfl (.cons 3 rfl (.cons 4 rfl (.cons 5 rfl (.cons 6 rfl (.cons 7 rfl (.cons 8 rfl (.cons 9 rfl (.cons 10 rfl (.cons 11 rfl .nil)))))))))) ?_
                  refine C.block ?_
                  refine C.range (ps := [78]) (()) (.t 0 rfl) Try.call49 (up_iter c b o cc t.p t.q x2.1 x2.2 k hF (by omega)) (.here) (nd := 0) (Mk := fun j (_ : Unit) => bx b17 2 [I64 (minAt left ((path c k).take j) rq)] :: ([bx g13 32 [.slice (some ⟨g12, 0, none⟩) c.nodes.length c.nodes.length], bx g12 2 (left.flatMap enI), bx g11 2 (gr.flatMap enI), bx b5 33 [.slice ra ranks.length rc], bx b3 26 (c.cells (some ⟨b, o, none⟩) cc), bx x.1 3 (x.2.flatMap enI)] ++ ms.map om)) rfl rfl (fun j v hv => by obtain ⟨y, _, rfl⟩ := pathV_nth hv; rfl) (G := Empty) (fun e => e.elim) (fun e => e.elim) ?_ ?_ ?_
                  ·
                    intro l rD rc w' j γ v hrc hst hv
                    obtain ⟨y, hy, rfl⟩ := pathV_nth hv
                    obtain ⟨hy0, hyi⟩ := path_mem hF (List.mem_of_getElem? hy)
                    obtain ⟨z, hz⟩ := get_lt (xs := left) (i := y.toNat) (by omega)
                    refine C.rnd ?_
                    refine C.reg ?_
                    refine J.q rfl rfl rfl rfl (Q.assign (.t 0 rfl)) ?_  -- 20:0 cable.go:232 t18 assign
                    refine J.done ?_
                    refine X.body hrc ?_
                    refine C.block ?_
                    refine C.drawS ?_
                    refine JC.q 0 rfl rfl rfl rfl (Q.load (.t 3 rfl) Try.isAgg2 (by first | (first | exact ldT 1 0 rfl (by repeat constructor) | exact ldTΦ 1 0 rfl (by repeat constructor) | exact ldT 1 1 rfl (by repeat constructor) | exact ldTΦ 1 1 rfl (by repeat constructor) | exact ldT 1 2 rfl (by repeat constructor) | exact ldTΦ 1 2 rfl (by repeat constructor) | exact ldT 1 3 rfl (by repeat constructor) | exact ldTΦ 1 3 rfl (by repeat constructor) | exact ldT 1 4 rfl (by repeat constructor) | exact ldTΦ 1 4 rfl (by repeat constructor) | exact ldT 1 5 rfl (by repeat constructor) | exact ldTΦ 1 5 rfl (by repeat constructor) | exact ldT 1 6 rfl (by repeat constructor) | exact ldO 0 rfl (by assumption) | exact ldO 1 rfl (by assumption) | exact ldO 2 rfl (by assumption) | exact ldO 3 rfl (by assumption) | exact ldOT 1 0 rfl (by assumption) (by repeat constructor) | exact ldOT 1 1 rfl (by assumption) (by repeat constructor) | exact ldOT 1 2 rfl (by assumption) (by repeat constructor) | exact ldOT 1 3 rfl (by assumption) (by repeat constructor)) | (first | exact ldO1 0 rfl (by assumption) rfl | exact ldO1 1 rfl (by assumption) rfl | exact ldO1 2 rfl (by assumption) rfl | exact ldO1 3 rfl (by assumption) rfl | exact ldO1 4 rfl (by assumption) rfl | exact ldO1 5 rfl (by assumption) rfl | exact ldM1 0 rfl (fun _ => rfl) (by assumption) rfl | exact ldM1 1 rfl (fun _ => rfl) (by assumption) rfl | exact ldM1 2 rfl (fun _ => rfl) (by assumption) rfl | exact ldM1 3 rfl (fun _ => rfl) (by assumption) rfl | exact ldM1 4 rfl (fun _ => rfl) (by assumption) rfl | exact ldM1 5 rfl (fun _ => rfl) (by assumption) rfl))) ?_  -- 21:0 cable.go:233 t79 load
                    refine JC.q 1 rfl rfl rfl rfl (Q.load (.t 10 rfl) Try.isAgg32 (by first | (first | exact ldT 1 0 rfl (by repeat constructor) | exact ldTΦ 1 0 rfl (by repeat constructor) | exact ldT 1 1 rfl (by repeat constructor) | exact ldTΦ 1 1 rfl (by repeat constructor) | exact ldT 1 2 rfl (by repeat constructor) | exact ldTΦ 1 2 rfl (by repeat constructor) | exact ldT 1 3 rfl (by repeat constructor) | exact ldTΦ 1 3 rfl (by repeat constructor) | exact ldT 1 4 rfl (by repeat constructor) | exact ldTΦ 1 4 rfl (by repeat constructor) | exact ldT 1 5 rfl (by repeat constructor) | exact ldTΦ 1 5 rfl (by repeat constructor) | exact ldT 1 6 rfl (by repeat constructor) | exact ldO 0 rfl (by assumption) | exact ldO 1 rfl (by assumption) | exact ldO 2 rfl (by assumption) | exact ldO 3 rfl (by assumption) | exact ldOT 1 0 rfl (by assumption) (by repeat constructor) | exact ldOT 1 1 rfl (by assumption) (by repeat constructor) | exact ldOT 1 2 rfl (by assumption) (by repeat constructor) | exact ldOT 1 3 rfl (by assumption) (by repeat constructor)) | (first | exact ldO1 0 rfl (by assumption) rfl | exact ldO1 1 rfl (by assumption) rfl | exact ldO1 2 rfl (by assumption) rfl | exact ldO1 3 rfl (by assumption) rfl | exact ldO1 4 rfl (by assumption) rfl | exact ldO1 5 rfl (by assumption) rfl | exact ldM1 0 rfl (fun _ => rfl) (by assumption) rfl | exact ldM1 1 rfl (fun _ => rfl) (by assumption) rfl | exact ldM1 2 rfl (fun _ => rfl) (by assumption) rfl | exact ldM1 3 rfl (fun _ => rfl) (by assumption) rfl | exact ldM1 4 rfl (fun _ => rfl) (by assumption) rfl | exact ldM1 5 rfl (fun _ => rfl) (by assumption) rfl))) ?_  -- 21:1 cable.go:233 t80 load
                    refine JC.q 2 rfl rfl rfl rfl (Q.move (.t 2 rfl)) ?_  -- 21:2 cable.go:233 t81 move
                    refine JC.q 3 rfl rfl rfl rfl (Q.indexAddr Try.underlying32 Try.sizeOf2 (.t 1 rfl) (.t 0 rfl) (by omega)) ?_  -- 21:3 cable.go:233 t82 indexAddr
                    refine JC.q 4 rfl rfl rfl rfl (Q.load (.t 0 rfl) Try.isAgg2 (by exact ldM1 4 rfl (fun _ => rfl) hz rfl)) ?_  -- 21:4 cable.go:233 t83 load
                    refine JC.q 5 rfl rfl rfl rfl (Q.min2 (.t 4 rfl) (.t 0 rfl)) ?_  -- 21:5 cable.go:233 t84 call
                    refine JC.tail [0, 0, 0, 6, 14, 31, 63] 1 mixed (by kernel_rfl) (by kernel_rfl) (by (first | (exact fun _ h => h) | (exact fun _ h => h.dropM) | (exact fun _ h => h.dropM.dropM) | (exact fun _ h => h.sub (by (repeat (first | exact List.Sublist.refl _ | exact List.nil_sublist _ | apply List.Sublist.cons_cons | apply List.Sublist.cons)); done)) | (exact fun _ h => h.subΦ (fun i hi => List.mem_cons_of_mem _ hi)))) ?_
                    refine JT.pick [6] (by kernel_rfl) (.cons (DStep.of rfl ?_) .nil)
                    refine J.s rfl rfl rfl (S.storeP (.t 9 rfl) (.t 0 rfl) Try.sizeOf2 rfl rfl (by (first | exact Nd.enc_one _ | (first | exact Span.enc_one _ | ((intro u hu; simp at hu; first | done | ((repeat' (rcases hu with rfl | hu)) <;> (try subst hu) <;> rfl)))))) (by (repeat (first | exact Upd.here | apply Upd.there))) (by (repeat constructor); done)) ?_  -- 21:6 cable.go:233 tNone store
                    refine J.finF rfl rfl ?_
                    refine JT.end_ ?_
                    refine X.inNormal ?_
                    refine (X.next_ (()) hrc hst).conv ?_
                    exact fun _ h => by rw [minAt_take hy hz]; exact h
                  ·
                    intro rD1 γ hrD
                    refine X.conv (A := St w no (om rD1 :: bx b17 2 [I64 (minAt left (path c k) rq)] :: ([bx g13 32 [.slice (some ⟨g12, 0, none⟩) c.nodes.length c.nodes.length], bx g12 2 (left.flatMap enI), bx g11 2 (gr.flatMap enI), bx b5 33 [.slice ra ranks.length rc], bx b3 26 (c.cells (some ⟨b, o, none⟩) cc), bx x.1 3 (x.2.flatMap enI)] ++ ms.map om)) [needR c (some ⟨b, o, none⟩) cc t.p t.q, bx t.p 82 (c.tcells (some ⟨b, o, none⟩) cc t.q), bigR (t.res c (some ⟨b, o, none⟩) cc), rowO (some ⟨b, o, none⟩) 8 Nd.enc c.nodes, rowO (some ⟨bq, oq, none⟩) 1 enI reqs, rowO ra 1 enI ranks]) ?_ (fun _ h => by rw [pathV_len, List.take_length] at h; exact h)
                    have hn0' : 0 ≤ minAt left (path c k) rq := minAt_nonneg (fun z hz => (hlb z hz).1) (by omega)
                    have hn1' : minAt left (path c k) rq ≤ 65536 := by have := (minAt_le (left := left) (ps := path c k) (n := rq)).1; omega
                    refine X.inNormal ?_
                    refine X.go ?_
                    refine C.keep (.cons 1 rfl (.cons 2 rfl (.cons 3 rfl (.cons 4 rfl (.cons 5 rfl (.cons 6 rfl (.cons 7 rfl (.cons 8 rfl (.cons 9 rfl .nil))))))))) ?_
                    refine C.seq ?_
                    refine C.reg ?_
                    refine J.q rfl rfl rfl rfl (Q.move (.t 5 rfl)) ?_  -- 22:0 cable.go:235 t85 move
                    refine J.q rfl rfl rfl rfl (Q.move (.t 2 rfl)) ?_  -- 22:1 cable.go:235 t86 move
                    refine J.q rfl rfl rfl rfl (Q.load (.t 2 rfl) Try.isAgg2 (by first | (first | exact ldT 1 0 rfl (by repeat constructor) | exact ldTΦ 1 0 rfl (by repeat constructor) | exact ldT 1 1 rfl (by repeat constructor) | exact ldTΦ 1 1 rfl (by repeat constructor) | exact ldT 1 2 rfl (by repeat constructor) | exact ldTΦ 1 2 rfl (by repeat constructor) | exact ldT 1 3 rfl (by repeat constructor) | exact ldTΦ 1 3 rfl (by repeat constructor) | exact ldT 1 4 rfl (by repeat constructor) | exact ldTΦ 1 4 rfl (by repeat constructor) | exact ldT 1 5 rfl (by repeat constructor) | exact ldTΦ 1 5 rfl (by repeat constructor) | exact ldT 1 6 rfl (by repeat constructor) | exact ldO 0 rfl (by assumption) | exact ldO 1 rfl (by assumption) | exact ldO 2 rfl (by assumption) | exact ldO 3 rfl (by assumption) | exact ldOT 1 0 rfl (by assumption) (by repeat constructor) | exact ldOT 1 1 rfl (by assumption) (by repeat constructor) | exact ldOT 1 2 rfl (by assumption) (by repeat constructor) | exact ldOT 1 3 rfl (by assumption) (by repeat constructor)) | (first | exact ldO1 0 rfl (by assumption) rfl | exact ldO1 1 rfl (by assumption) rfl | exact ldO1 2 rfl (by assumption) rfl | exact ldO1 3 rfl (by assumption) rfl | exact ldO1 4 rfl (by assumption) rfl | exact ldO1 5 rfl (by assumption) rfl | exact ldM1 0 rfl (fun _ => rfl) (by assumption) rfl | exact ldM1 1 rfl (fun _ => rfl) (by assumption) rfl | exact ldM1 2 rfl (fun _ => rfl) (by assumption) rfl | exact ldM1 3 rfl (fun _ => rfl) (by assumption) rfl | exact ldM1 4 rfl (fun _ => rfl) (by assumption) rfl | exact ldM1 5 rfl (fun _ => rfl) (by assumption) rfl))) ?_  -- 22:2 cable.go:235 t87 load
                    refine J.q rfl rfl rfl rfl (Q.indexAddr Try.underlying32 Try.sizeOf2 (.t 2 rfl) (.t 1 rfl) (by omega)) ?_  -- 22:3 cable.go:235 t88 indexAddr
                    refine J.s rfl rfl rfl (S.storeR (enc := enI) (e := minAt left (path c k) rq) (.t 0 rfl) (.t 1 rfl) Try.sizeOf2 (fun _ => rfl) rfl rfl (by (first | exact Nd.enc_one _ | (first | exact Span.enc_one _ | ((intro u hu; simp at hu; first | done | ((repeat' (rcases hu with rfl | hu)) <;> (try subst hu) <;> rfl)))))) (by (repeat (first | exact Upd.here | apply Upd.there))) (by omega)) ?_
                    refine J.end_ ?_
                    refine C.keep (.cons 4 rfl (.cons 5 rfl (.cons 6 rfl (.cons 7 rfl (.cons 8 rfl (.cons 9 rfl (.cons 10 rfl (.cons 11 rfl (.cons 12 rfl .nil))))))))) ?_
                    refine C.seq ?_
                    refine C.reg ?_
                    refine J.q rfl rfl rfl rfl (Q.move (.t 7 rfl)) ?_  -- 23:0 cable.go:236 t89 move
                    refine J.q rfl rfl rfl rfl (Q.move (.t 2 rfl)) ?_  -- 23:1 cable.go:236 t90 move
                    refine J.callNF rfl rfl rfl rfl (run_static Try.call27 .f (.cons (.t 1 rfl) (.cons (.t 0 rfl) .nil)) rfl) (fun w hA => up_calls w t.p k) ?_  -- 23:2 cable.go:236 t91 call
                    intro x3 _ hnew3
                    refine J.end_ ?_
                    refine C.keep (.cons 0 rfl (.cons 3 rfl (.cons 5 rfl (.cons 6 rfl (.cons 7 rfl (.cons 8 rfl (.cons 9 rfl (.cons 10 rfl (.cons 11 rfl .nil))))))))) ?_
                    refine C.block ?_
                    refine C.range (ps := [92]) (()) (.t 0 rfl) Try.call49 (up_iter c b o cc t.p t.q x3.1 x3.2 k hF (by omega)) (.here) (nd := 0) (Mk := fun j (_ : Unit) => om rD1 :: bx b17 2 [I64 (minAt left (path c k) rq)] :: ([bx g13 32 [.slice (some ⟨g12, 0, none⟩) c.nodes.length c.nodes.length], bx g12 2 ((addAt left ((path c k).take j) (-minAt left (path c k) rq)).flatMap enI), bx g11 2 ((gr.set k.toNat (minAt left (path c k) rq)).flatMap enI), bx b5 33 [.slice ra ranks.length rc], bx b3 26 (c.cells (some ⟨b, o, none⟩) cc), bx x.1 3 (x.2.flatMap enI)] ++ ms.map om)) rfl rfl (fun j v hv => by obtain ⟨y, _, rfl⟩ := pathV_nth hv; rfl) (G := Empty) (fun e => e.elim) (fun e => e.elim) ?_ ?_ ?_
                    ·
                      intro l rD rc w' j γ v hrc hst hv
                      obtain ⟨y, hy, rfl⟩ := pathV_nth hv
                      obtain ⟨hy0, hyi⟩ := path_mem hF (List.mem_of_getElem? hy)
                      obtain ⟨z, hz⟩ := get_lt (xs := addAt left ((path c k).take j) (-minAt left (path c k) rq)) (i := y.toNat) (by rw [addAt_length]; omega)
                      have hzb := left_next hF hlb hn0' (fun y hy => minAt_le.2 y hy) j z (List.mem_of_getElem? hz)
                      refine C.rnd ?_
                      refine C.reg ?_
                      refine J.q rfl rfl rfl rfl (Q.assign (.t 0 rfl)) ?_  -- 24:0 cable.go:236 t19 assign
                      refine J.done ?_
                      refine X.body hrc ?_
                      refine C.block ?_
                      refine C.drawS ?_
                      refine JC.q 0 rfl rfl rfl rfl (Q.load (.t 8 rfl) Try.isAgg32 (by first | (first | exact ldT 1 0 rfl (by repeat constructor) | exact ldTΦ 1 0 rfl (by repeat constructor) | exact ldT 1 1 rfl (by repeat constructor) | exact ldTΦ 1 1 rfl (by repeat constructor) | exact ldT 1 2 rfl (by repeat constructor) | exact ldTΦ 1 2 rfl (by repeat constructor) | exact ldT 1 3 rfl (by repeat constructor) | exact ldTΦ 1 3 rfl (by repeat constructor) | exact ldT 1 4 rfl (by repeat constructor) | exact ldTΦ 1 4 rfl (by repeat constructor) | exact ldT 1 5 rfl (by repeat constructor) | exact ldTΦ 1 5 rfl (by repeat constructor) | exact ldT 1 6 rfl (by repeat constructor) | exact ldO 0 rfl (by assumption) | exact ldO 1 rfl (by assumption) | exact ldO 2 rfl (by assumption) | exact ldO 3 rfl (by assumption) | exact ldOT 1 0 rfl (by assumption) (by repeat constructor) | exact ldOT 1 1 rfl (by assumption) (by repeat constructor) | exact ldOT 1 2 rfl (by assumption) (by repeat constructor) | exact ldOT 1 3 rfl (by assumption) (by repeat constructor)) | (first | exact ldO1 0 rfl (by assumption) rfl | exact ldO1 1 rfl (by assumption) rfl | exact ldO1 2 rfl (by assumption) rfl | exact ldO1 3 rfl (by assumption) rfl | exact ldO1 4 rfl (by assumption) rfl | exact ldO1 5 rfl (by assumption) rfl | exact ldM1 0 rfl (fun _ => rfl) (by assumption) rfl | exact ldM1 1 rfl (fun _ => rfl) (by assumption) rfl | exact ldM1 2 rfl (fun _ => rfl) (by assumption) rfl | exact ldM1 3 rfl (fun _ => rfl) (by assumption) rfl | exact ldM1 4 rfl (fun _ => rfl) (by assumption) rfl | exact ldM1 5 rfl (fun _ => rfl) (by assumption) rfl))) ?_  -- 25:0 cable.go:237 t93 load
                      refine JC.q 1 rfl rfl rfl rfl (Q.move (.t 1 rfl)) ?_  -- 25:1 cable.go:237 t94 move
                      refine JC.q 2 rfl rfl rfl rfl (Q.indexAddr Try.underlying32 Try.sizeOf2 (.t 1 rfl) (.t 0 rfl) (by omega)) ?_  -- 25:2 cable.go:237 t95 indexAddr
                      refine JC.q 3 rfl rfl rfl rfl (Q.load (.t 0 rfl) Try.isAgg2 (by exact ldM1 5 rfl (fun _ => rfl) hz rfl)) ?_  -- 25:3 cable.go:237 t96 load
                      refine JC.q 4 rfl rfl rfl rfl (Q.load (.t 7 rfl) Try.isAgg2 (by first | (first | exact ldT 1 0 rfl (by repeat constructor) | exact ldTΦ 1 0 rfl (by repeat constructor) | exact ldT 1 1 rfl (by repeat constructor) | exact ldTΦ 1 1 rfl (by repeat constructor) | exact ldT 1 2 rfl (by repeat constructor) | exact ldTΦ 1 2 rfl (by repeat constructor) | exact ldT 1 3 rfl (by repeat constructor) | exact ldTΦ 1 3 rfl (by repeat constructor) | exact ldT 1 4 rfl (by repeat constructor) | exact ldTΦ 1 4 rfl (by repeat constructor) | exact ldT 1 5 rfl (by repeat constructor) | exact ldTΦ 1 5 rfl (by repeat constructor) | exact ldT 1 6 rfl (by repeat constructor) | exact ldO 0 rfl (by assumption) | exact ldO 1 rfl (by assumption) | exact ldO 2 rfl (by assumption) | exact ldO 3 rfl (by assumption) | exact ldOT 1 0 rfl (by assumption) (by repeat constructor) | exact ldOT 1 1 rfl (by assumption) (by repeat constructor) | exact ldOT 1 2 rfl (by assumption) (by repeat constructor) | exact ldOT 1 3 rfl (by assumption) (by repeat constructor)) | (first | exact ldO1 0 rfl (by assumption) rfl | exact ldO1 1 rfl (by assumption) rfl | exact ldO1 2 rfl (by assumption) rfl | exact ldO1 3 rfl (by assumption) rfl | exact ldO1 4 rfl (by assumption) rfl | exact ldO1 5 rfl (by assumption) rfl | exact ldM1 0 rfl (fun _ => rfl) (by assumption) rfl | exact ldM1 1 rfl (fun _ => rfl) (by assumption) rfl | exact ldM1 2 rfl (fun _ => rfl) (by assumption) rfl | exact ldM1 3 rfl (fun _ => rfl) (by assumption) rfl | exact ldM1 4 rfl (fun _ => rfl) (by assumption) rfl | exact ldM1 5 rfl (fun _ => rfl) (by assumption) rfl))) ?_  -- 25:4 cable.go:237 t97 load
                      refine JC.q 5 rfl rfl rfl rfl (Q.sub (.t 1 rfl) (.t 0 rfl) (by omega)) ?_  -- 25:5 cable.go:237 t98 binOp
                      refine JC.q 6 rfl rfl rfl rfl (Q.indexAddr Try.underlying32 Try.sizeOf2 (.t 5 rfl) (.t 4 rfl) (by omega)) ?_  -- 25:6 cable.go:237 t99 indexAddr
                      refine JC.tail [0, 0, 3, 7, 0, 31, 63, 127] 1 mixed (by kernel_rfl) (by kernel_rfl) (by (first | (exact fun _ h => h) | (exact fun _ h => h.dropM) | (exact fun _ h => h.dropM.dropM) | (exact fun _ h => h.sub (by (repeat (first | exact List.Sublist.refl _ | exact List.nil_sublist _ | apply List.Sublist.cons_cons | apply List.Sublist.cons)); done)) | (exact fun _ h => h.subΦ (fun i hi => List.mem_cons_of_mem _ hi)))) ?_
                      refine JT.pick [7] (by kernel_rfl) (.cons (DStep.of rfl ?_) .nil)
                      refine J.s rfl rfl rfl (S.storeR (enc := enI) (e := z - minAt left (path c k) rq) (.t 0 rfl) (.t 1 rfl) Try.sizeOf2 (fun _ => rfl) rfl rfl (by (first | exact Nd.enc_one _ | (first | exact Span.enc_one _ | ((intro u hu; simp at hu; first | done | ((repeat' (rcases hu with rfl | hu)) <;> (try subst hu) <;> rfl)))))) (by (repeat (first | exact Upd.here | apply Upd.there))) (by rw [addAt_length]; omega)) ?_
                      refine J.finF rfl rfl ?_
                      refine JT.end_ ?_
                      refine X.inNormal ?_
                      refine (X.next_ (()) hrc hst).conv ?_
                      exact fun _ h => by rw [addAt_take hy hz, ← Int.sub_eq_add_neg]; exact h
                    ·
                      intro rD γ hrD
                      refine X.inNormal ?_
                      refine X.inNormal ?_
                      refine X.go ?_
                      refine C.keep (.cons 2 rfl (.cons 3 rfl (.cons 4 rfl (.cons 5 rfl (.cons 6 rfl (.cons 7 rfl (.cons 8 rfl .nil))))))) ?_
                      refine C.reg ?_
                      refine J.q rfl rfl rfl rfl (Q.add (.t 0 rfl) .c (by omega)) ?_  -- 26:0 cable.go:230 t100 binOp
                      refine J.keep (.cons 0 rfl (.cons 2 rfl (.cons 3 rfl (.cons 4 rfl (.cons 5 rfl (.cons 6 rfl (.cons 7 rfl .nil))))))) ?_
                      refine J.q rfl rfl rfl rfl (Q.move (.t 0 rfl)) ?_  -- 26:1 cable.go:230 t67 move
                      refine J.done ?_
                      refine X.nxD (⟨(j0 + 1, (gr.set k.toNat (minAt left (path c k) rq), addAt left (path c k) (-minAt left (path c k) rq)), rD :: rD1 :: ms), by simp only; omega, by rw [shareTo_next hyk, ← hs]; simp [shareStep, List.getD, hrq], by simpa using hgl, by rw [addAt_length]; exact hll, by have := left_next hF hlb hn0' (fun y hy => minAt_le.2 y hy) (path c k).length; rwa [List.take_length] at this⟩) rfl (.cons 0 (by (first | rfl | (simp; done))) (.cons 2 (by (first | rfl | (simp; done))) (.cons 3 (by (first | rfl | (simp; done))) (.cons 4 (by (first | rfl | (simp; done))) (.cons 5 (by (first | rfl | (simp; done))) (.cons 6 (by (first | rfl | (simp; done))) (.cons 7 (by (first | rfl | (simp; done))) .nil))))))) ?_ ?_
                      ·
                        exact fun _ h => by rw [pathV_len, List.take_length] at h; exact h.to (by (repeat (first | exact PermL.same | refine PermL.cons (by (repeat (first | exact Pick.here | apply Pick.there)); done) ?_ | exact PermL.drop | refine PermL.skip ?_)); done)
                      ·
                        simp; omega
                    ·
                      intro rD e; exact e.elim
                  ·
                    intro rD e; exact e.elim
                ·
                  simp only [decide_eq_true_eq, decide_eq_false_iff_not, Bool.and_eq_true, Bool.or_eq_true, Bool.and_eq_false_iff, Bool.or_eq_false_iff, Bool.not_eq_true', Bool.not_eq_false', beq_iff_eq, bne_iff_ne, Int.not_lt, Int.not_le, Decidable.not_not, ne_eq] at c4
                  refine C.exit ?_
                  refine X.thenExit ?_
                  refine X.thenExit ?_
                  refine X.inHit ?_
                  refine X.go ?_
                  refine C.keep (.cons 4 rfl .nil) ?_
                  refine C.seq ?_
                  refine C.reg ?_
                  refine J.q rfl rfl rfl rfl (Q.move (.t 0 rfl)) ?_  -- 27:0 cable.go:240 t101 move
                  refine J.q rfl rfl rfl rfl (Q.assign (.t 0 rfl)) ?_  -- 27:1 cable.go:240 t6 assign
                  refine J.q rfl rfl rfl rfl (Q.assign .c) ?_  -- 27:2 cable.go:240 t7 assign
                  refine J.end_ ?_
                  refine C.keep (.cons 0 rfl (.cons 1 rfl .nil)) ?_
                  refine C.ret ?_
                  refine X.leave ?_
                  refine XL.marks ?_
                  refine XL.ret2 rfl 1 0 rfl rfl (fun w hA => ?_)
                  have hj : j0 = x.2.length := by omega
                  exact PostN.of (X := Nat × List Int) (g11, x.2) hx0 (by rw [hj, List.take_length] at hs; rw [show gr = (shareTo c reqs x.2).1 by rw [← hs]] at hA; exact hA.front (.there (.there .here)))

end Go.Proofs
namespace Go.Proofs
open Go Go.J Go.RowKit Go.Cab
set_option maxRecDepth 4096
set_option linter.unusedSimpArgs false
set_option linter.unusedVariables false
theorem down_step (c : Cable) (a : Option Addr) (cc : Nat) (t : Tree) (hF : Fit c) (hO : Opened c t) (b2 b5 b6 : Nat) (f : Nat) (ih : ∀ (k : Int) (s : Sl) (w : World), (∀ r ∈ [bx b2 57 [.pointer (some ⟨t.p, 0, none⟩)], bx b6 89 [Value.func (.func 52) [].toArray [Value.pointer (some ⟨b5, 0, none⟩), Value.pointer (some ⟨b2, 0, none⟩), Value.pointer (some ⟨b6, 0, none⟩)].toArray], bx t.p 82 (c.tcells a cc t.q), bx t.q 33 (t.ss.flatMap Sl.enc), bigR (t.ss.map Sl.row)], r.ok w ∧ Apart (outR b5 s) r) → (outR b5 s).ok w → 0 ≤ k → k < c.nodes.length → s.n = s.xs.length → s.n + (pre c k).length ≤ 1000000 → c.nodes.length - k.toNat ≤ f → Calls Try.prog 52 [.int .i64 k, .pointer (some ⟨b5, 0, none⟩), .pointer (some ⟨b2, 0, none⟩), .pointer (some ⟨b6, 0, none⟩)].toArray w (PostU (fun s' : Sl => s'.xs = s.xs ++ pre c k ∧ s'.n = s'.xs.length) (fun _ => .tuple #[]) (outR b5 s) (fun s' => outR b5 s') w)) (k : Int) (s : Sl) (w : World) (hΦ : ∀ r ∈ [bx b2 57 [.pointer (some ⟨t.p, 0, none⟩)], bx b6 89 [Value.func (.func 52) [].toArray [Value.pointer (some ⟨b5, 0, none⟩), Value.pointer (some ⟨b2, 0, none⟩), Value.pointer (some ⟨b6, 0, none⟩)].toArray], bx t.p 82 (c.tcells a cc t.q), bx t.q 33 (t.ss.flatMap Sl.enc), bigR (t.ss.map Sl.row)], r.ok w ∧ Apart (outR b5 s) r) (hs : (outR b5 s).ok w) (h0 : 0 ≤ k) (h1 : k < c.nodes.length) (hn : s.n = s.xs.length) (hb : s.n + (pre c k).length ≤ 1000000) (hf : c.nodes.length - k.toNat ≤ f + 1) : Calls Try.prog 52 [.int .i64 k, .pointer (some ⟨b5, 0, none⟩), .pointer (some ⟨b2, 0, none⟩), .pointer (some ⟨b6, 0, none⟩)].toArray w (PostU (fun s' : Sl => s'.xs = s.xs ++ pre c k ∧ s'.n = s'.xs.length) (fun _ => .tuple #[]) (outR b5 s) (fun s' => outR b5 s') w) := by
  obtain ⟨⟨ska, skn, skc, skxs⟩, hsk, hkx, hkn⟩ := hO.get h0 h1
  dsimp only at hkx hkn
  subst hkx
  subst hkn
  have hrow : (rowO ska 1 enI (kidsOf c k)).φ w := ((hΦ (bigR (t.ss.map Sl.row)) (by simp)).1).1 _ (List.mem_map.2 ⟨_, List.mem_of_getElem? hsk, rfl⟩)
  have hkm : rowO ska 1 enI (kidsOf c k) ∈ t.ss.map Sl.row := List.mem_map.2 ⟨_, List.mem_of_getElem? hsk, rfl⟩
  have htl : t.ss.length = c.nodes.length := by rw [← List.length_map (f := (·.xs)), hO.1, kids, kidsUpto_length]
  have hn60 := hF.le
  have hkl := kidsOf_len hF ⟨h0, h1⟩
  refine Calls.enter Try.func52 rfl rfl rfl ?_
  refine C.conseq (A' := St w (outR b5 s).U [bx b5 33 [s.val], s.grow] [bx b2 57 [.pointer (some ⟨t.p, 0, none⟩)], bx b6 89 [Value.func (.func 52) [].toArray [Value.pointer (some ⟨b5, 0, none⟩), Value.pointer (some ⟨b2, 0, none⟩), Value.pointer (some ⟨b6, 0, none⟩)].toArray], bx t.p 82 (c.tcells a cc t.q), bx t.q 33 (t.ss.flatMap Sl.enc), bigR (t.ss.map Sl.row)]) (fun _ e => by subst e; exact (St.init1 _ (outR b5 s) _ hs hΦ).split) ?_
  refine C.seq ?_
  refine C.reg ?_
  refine J.q rfl rfl rfl rfl (Q.load (.t 1 rfl) Try.isAgg33 (by first | (first | exact ldT 1 0 rfl (by repeat constructor) | exact ldTΦ 1 0 rfl (by repeat constructor) | exact ldT 1 1 rfl (by repeat constructor) | exact ldTΦ 1 1 rfl (by repeat constructor) | exact ldT 1 2 rfl (by repeat constructor) | exact ldTΦ 1 2 rfl (by repeat constructor) | exact ldT 1 3 rfl (by repeat constructor) | exact ldTΦ 1 3 rfl (by repeat constructor) | exact ldT 1 4 rfl (by repeat constructor) | exact ldTΦ 1 4 rfl (by repeat constructor) | exact ldT 1 5 rfl (by repeat constructor) | exact ldTΦ 1 5 rfl (by repeat constructor) | exact ldT 1 6 rfl (by repeat constructor) | exact ldO 0 rfl (by assumption) | exact ldO 1 rfl (by assumption) | exact ldO 2 rfl (by assumption) | exact ldO 3 rfl (by assumption) | exact ldOT 1 0 rfl (by assumption) (by repeat constructor) | exact ldOT 1 1 rfl (by assumption) (by repeat constructor) | exact ldOT 1 2 rfl (by assumption) (by repeat constructor) | exact ldOT 1 3 rfl (by assumption) (by repeat constructor)) | (first | exact ldO1 0 rfl (by assumption) rfl | exact ldO1 1 rfl (by assumption) rfl | exact ldO1 2 rfl (by assumption) rfl | exact ldO1 3 rfl (by assumption) rfl | exact ldO1 4 rfl (by assumption) rfl | exact ldO1 5 rfl (by assumption) rfl | exact ldM1 0 rfl (fun _ => rfl) (by assumption) rfl | exact ldM1 1 rfl (fun _ => rfl) (by assumption) rfl | exact ldM1 2 rfl (fun _ => rfl) (by assumption) rfl | exact ldM1 3 rfl (fun _ => rfl) (by assumption) rfl | exact ldM1 4 rfl (fun _ => rfl) (by assumption) rfl | exact ldM1 5 rfl (fun _ => rfl) (by assumption) rfl))) ?_  -- 0:0 cable.go:77 t7 load
  refine J.q rfl rfl rfl rfl (Q.move (.t 1 rfl)) ?_  -- 0:1 cable.go:77 t8 move
  refine J.lit rfl rfl rfl rfl rfl rfl Try.underlying33 inf3 (.cons (.t 0 rfl) .nil) (Cs.eq (.cons rfl .nil)) (by simp) (by simp) (by simp) (by simp) ?_; intro b9 hb9  -- 0:2 cable.go:77 t9 buildSlice
  refine J.append (l := s.xs.map I64) (news := [I64 k]) (Mn := fun a' c' => [bx b9 3 [I64 k], bx b5 33 [s.val], (⟨a', s.n + 1, c', s.xs ++ [k]⟩ : Sl).grow]) rfl rfl rfl rfl Try.underlying33 inf3 (by simp) (.t 2 rfl) (.t 0 rfl) (fun w hA => ⟨_, _, rfl, ldT 1 0 rfl (by (repeat constructor); done) w hA⟩) rfl (by simp [Value.oneCell']) (by omega) (by omega) (fun a' c' => .there (.there s.app)) ?_; intro a' c'
  refine J.s rfl rfl rfl (S.storeP (l' := [(⟨a', s.n + 1, c', s.xs ++ [k]⟩ : Sl).val]) (.t 5 rfl) (.t 0 rfl) Try.sizeOf33 rfl rfl (by (first | exact Nd.enc_one _ | (first | exact Span.enc_one _ | ((intro u hu; simp at hu; first | done | ((repeat' (rcases hu with rfl | hu)) <;> (try subst hu) <;> rfl)))))) (by (repeat (first | exact Upd.here | apply Upd.there))) (by (repeat constructor); done)) ?_
  refine J.end_ ?_
  refine C.keep (.cons 4 rfl (.cons 6 rfl (.cons 7 rfl .nil))) ?_
  refine C.seq ?_
  refine C.reg ?_
  refine J.q rfl rfl rfl rfl (Q.load (.t 1 rfl) Try.isAgg57 (by first | (first | exact ldT 1 0 rfl (by repeat constructor) | exact ldTΦ 1 0 rfl (by repeat constructor) | exact ldT 1 1 rfl (by repeat constructor) | exact ldTΦ 1 1 rfl (by repeat constructor) | exact ldT 1 2 rfl (by repeat constructor) | exact ldTΦ 1 2 rfl (by repeat constructor) | exact ldT 1 3 rfl (by repeat constructor) | exact ldTΦ 1 3 rfl (by repeat constructor) | exact ldT 1 4 rfl (by repeat constructor) | exact ldTΦ 1 4 rfl (by repeat constructor) | exact ldT 1 5 rfl (by repeat constructor) | exact ldTΦ 1 5 rfl (by repeat constructor) | exact ldT 1 6 rfl (by repeat constructor) | exact ldO 0 rfl (by assumption) | exact ldO 1 rfl (by assumption) | exact ldO 2 rfl (by assumption) | exact ldO 3 rfl (by assumption) | exact ldOT 1 0 rfl (by assumption) (by repeat constructor) | exact ldOT 1 1 rfl (by assumption) (by repeat constructor) | exact ldOT 1 2 rfl (by assumption) (by repeat constructor) | exact ldOT 1 3 rfl (by assumption) (by repeat constructor)) | (first | exact ldO1 0 rfl (by assumption) rfl | exact ldO1 1 rfl (by assumption) rfl | exact ldO1 2 rfl (by assumption) rfl | exact ldO1 3 rfl (by assumption) rfl | exact ldO1 4 rfl (by assumption) rfl | exact ldO1 5 rfl (by assumption) rfl | exact ldM1 0 rfl (fun _ => rfl) (by assumption) rfl | exact ldM1 1 rfl (fun _ => rfl) (by assumption) rfl | exact ldM1 2 rfl (fun _ => rfl) (by assumption) rfl | exact ldM1 3 rfl (fun _ => rfl) (by assumption) rfl | exact ldM1 4 rfl (fun _ => rfl) (by assumption) rfl | exact ldM1 5 rfl (fun _ => rfl) (by assumption) rfl))) ?_  -- 1:0 cable.go:78 t11 load
  refine J.q rfl rfl rfl rfl (Q.nilCheck (.t 0 rfl)) ?_  -- 1:1 cable.go:78 t12 nilCheck
  refine J.q rfl rfl rfl rfl (Q.fa 3 Try.underlying82 rfl Try.sizeOf80 rfl rfl (.t 0 rfl)) ?_  -- 1:2 cable.go:78 t13 fieldAddr
  refine J.q rfl rfl rfl rfl (Q.load (.t 0 rfl) Try.isAgg80 (by first | (first | exact ldT 1 0 rfl (by repeat constructor) | exact ldTΦ 1 0 rfl (by repeat constructor) | exact ldT 1 1 rfl (by repeat constructor) | exact ldTΦ 1 1 rfl (by repeat constructor) | exact ldT 1 2 rfl (by repeat constructor) | exact ldTΦ 1 2 rfl (by repeat constructor) | exact ldT 1 3 rfl (by repeat constructor) | exact ldTΦ 1 3 rfl (by repeat constructor) | exact ldT 1 4 rfl (by repeat constructor) | exact ldTΦ 1 4 rfl (by repeat constructor) | exact ldT 1 5 rfl (by repeat constructor) | exact ldTΦ 1 5 rfl (by repeat constructor) | exact ldT 1 6 rfl (by repeat constructor) | exact ldO 0 rfl (by assumption) | exact ldO 1 rfl (by assumption) | exact ldO 2 rfl (by assumption) | exact ldO 3 rfl (by assumption) | exact ldOT 1 0 rfl (by assumption) (by repeat constructor) | exact ldOT 1 1 rfl (by assumption) (by repeat constructor) | exact ldOT 1 2 rfl (by assumption) (by repeat constructor) | exact ldOT 1 3 rfl (by assumption) (by repeat constructor)) | (first | exact ldO1 0 rfl (by assumption) rfl | exact ldO1 1 rfl (by assumption) rfl | exact ldO1 2 rfl (by assumption) rfl | exact ldO1 3 rfl (by assumption) rfl | exact ldO1 4 rfl (by assumption) rfl | exact ldO1 5 rfl (by assumption) rfl | exact ldM1 0 rfl (fun _ => rfl) (by assumption) rfl | exact ldM1 1 rfl (fun _ => rfl) (by assumption) rfl | exact ldM1 2 rfl (fun _ => rfl) (by assumption) rfl | exact ldM1 3 rfl (fun _ => rfl) (by assumption) rfl | exact ldM1 4 rfl (fun _ => rfl) (by assumption) rfl | exact ldM1 5 rfl (fun _ => rfl) (by assumption) rfl))) ?_  -- 1:3 cable.go:78 t14 load
  refine J.q rfl rfl rfl rfl (Q.move (.t 4 rfl)) ?_  -- 1:4 cable.go:78 t15 move
  refine J.q rfl rfl rfl rfl (Q.indexAddr Try.underlying80 Try.sizeOf33 (.t 1 rfl) (.t 0 rfl) (by omega)) ?_  -- 1:5 cable.go:78 t16 indexAddr
  refine J.q rfl rfl rfl rfl (Q.load (.t 0 rfl) Try.isAgg33 (by exact ldF1 (enc := Sl.enc) (x := ⟨ska, (kidsOf c k).length, skc, kidsOf c k⟩) 3 rfl (fun _ => rfl) hsk rfl)) ?_  -- 1:6 cable.go:78 t17 load
  refine J.q rfl rfl rfl rfl (Q.len Try.underlying33 (.t 0 rfl)) ?_  -- 1:7 cable.go:78 t18 call
  refine J.q rfl rfl rfl rfl (Q.move .c) ?_  -- 1:8 cable.go:78 t19 move
  refine J.end_ ?_
  refine C.keep (.cons 0 rfl (.cons 1 rfl (.cons 2 rfl (.cons 11 rfl .nil)))) ?_
  refine C.block ?_
  refine C.loop_1 (fun g => .int .i64 (g.1.1 : Int)) (G := { g : Nat × Sl // g.1 ≤ (kidsOf c k).length ∧ g.2.xs = s.xs ++ [k] ++ ((kidsOf c k).take g.1).flatMap (pre c) ∧ g.2.n = g.2.xs.length }) (fun g => St w (outR b5 s).U [bx b5 33 [g.1.2.val], g.1.2.grow] [bx b2 57 [.pointer (some ⟨t.p, 0, none⟩)], bx b6 89 [Value.func (.func 52) [].toArray [Value.pointer (some ⟨b5, 0, none⟩), Value.pointer (some ⟨b2, 0, none⟩), Value.pointer (some ⟨b6, 0, none⟩)].toArray], bx t.p 82 (c.tcells a cc t.q), bx t.q 33 (t.ss.flatMap Sl.enc), bigR (t.ss.map Sl.row)]) (fun g => (kidsOf c k).length - g.1.1) (⟨(0, (⟨a', s.n + 1, c', s.xs ++ [k]⟩ : Sl)), by simp, by simp, by simp; omega⟩) (by (first | rfl | (simp; done))) ?_ ?_
  ·
    exact fun _ h => h.dropM
  ·
    rintro ⟨⟨i, s'⟩, hi, hsx, hsn⟩
    dsimp only
    dsimp only at hi hsx hsn
    refine C.seq ?_
    refine C.reg ?_
    refine J.q rfl rfl rfl rfl (Q.lss (.t 0 rfl) (.t 1 rfl)) ?_  -- 2:0 cable.go:78 t20 binOp
    refine J.end_ ?_
    refine C.seq ?_
    refine C.cond (.t 0 rfl) (fun c0 => ?_) (fun c0 => ?_)  -- cond 0
    ·
      simp only [decide_eq_true_eq, decide_eq_false_iff_not, Bool.and_eq_true, Bool.or_eq_true, Bool.and_eq_false_iff, Bool.or_eq_false_iff, Bool.not_eq_true', Bool.not_eq_false', beq_iff_eq, bne_iff_ne, Int.not_lt, Int.not_le, Decidable.not_not, ne_eq] at c0
      have hlt : i < (kidsOf c k).length := by omega
      obtain ⟨j, hj⟩ := get_lt hlt
      obtain ⟨bk, ok, rfl⟩ := rowO.addr hrow (by omega)
      have hjg := kidsOf_gt hF ⟨h0, h1⟩ (List.mem_of_getElem? hj)
      refine C.skip ?_
      refine X.go ?_
      refine C.keep (.cons 1 rfl (.cons 2 rfl (.cons 3 rfl (.cons 4 rfl .nil)))) ?_
      refine C.seq ?_
      refine C.block ?_
      refine C.seq ?_
      refine C.reg ?_
      refine J.q rfl rfl rfl rfl (Q.indexAddr Try.underlying33 Try.sizeOf3 (.t 2 rfl) (.t 0 rfl) (by dsimp only; omega)) ?_  -- 3:0 cable.go:78 t21 indexAddr
      refine J.q rfl rfl rfl rfl (Q.load (.t 0 rfl) Try.isAgg3 (by exact ldG1 4 rfl hkm hj rfl)) ?_  -- 3:1 cable.go:78 t22 load
      refine J.q rfl rfl rfl rfl (Q.assign (.t 0 rfl)) ?_  -- 3:2 cable.go:78 t6 assign
      refine J.end_ ?_
      refine C.keep (.cons 0 rfl (.cons 3 rfl (.cons 4 rfl (.cons 5 rfl (.cons 6 rfl .nil))))) ?_
      refine C.reg ?_
      refine J.q rfl rfl rfl rfl (Q.load (.t 4 rfl) Try.isAgg89 (by first | (first | exact ldT 1 0 rfl (by repeat constructor) | exact ldTΦ 1 0 rfl (by repeat constructor) | exact ldT 1 1 rfl (by repeat constructor) | exact ldTΦ 1 1 rfl (by repeat constructor) | exact ldT 1 2 rfl (by repeat constructor) | exact ldTΦ 1 2 rfl (by repeat constructor) | exact ldT 1 3 rfl (by repeat constructor) | exact ldTΦ 1 3 rfl (by repeat constructor) | exact ldT 1 4 rfl (by repeat constructor) | exact ldTΦ 1 4 rfl (by repeat constructor) | exact ldT 1 5 rfl (by repeat constructor) | exact ldTΦ 1 5 rfl (by repeat constructor) | exact ldT 1 6 rfl (by repeat constructor) | exact ldO 0 rfl (by assumption) | exact ldO 1 rfl (by assumption) | exact ldO 2 rfl (by assumption) | exact ldO 3 rfl (by assumption) | exact ldOT 1 0 rfl (by assumption) (by repeat constructor) | exact ldOT 1 1 rfl (by assumption) (by repeat constructor) | exact ldOT 1 2 rfl (by assumption) (by repeat constructor) | exact ldOT 1 3 rfl (by assumption) (by repeat constructor)) | (first | exact ldO1 0 rfl (by assumption) rfl | exact ldO1 1 rfl (by assumption) rfl | exact ldO1 2 rfl (by assumption) rfl | exact ldO1 3 rfl (by assumption) rfl | exact ldO1 4 rfl (by assumption) rfl | exact ldO1 5 rfl (by assumption) rfl | exact ldM1 0 rfl (fun _ => rfl) (by assumption) rfl | exact ldM1 1 rfl (fun _ => rfl) (by assumption) rfl | exact ldM1 2 rfl (fun _ => rfl) (by assumption) rfl | exact ldM1 3 rfl (fun _ => rfl) (by assumption) rfl | exact ldM1 4 rfl (fun _ => rfl) (by assumption) rfl | exact ldM1 5 rfl (fun _ => rfl) (by assumption) rfl))) ?_  -- 4:0 cable.go:79 t23 load
      refine J.q rfl rfl rfl rfl (Q.move (.t 1 rfl)) ?_  -- 4:1 cable.go:79 t24 move
      refine J.conseq (fun _ h => h.join) ?_
      refine J.callU rfl rfl rfl rfl (run_closure (first := []) Try.call52 (.t 1 rfl) (.cons (.t 0 rfl) .nil) rfl) (fun _ => .here) (fun w hA => ih j s' w (fun r hr => ⟨⟨(hA.imm r hr).1, (hA.imm r hr).2.1⟩, (hA.imm r hr).2.2 _ (List.mem_cons_self ..)⟩) (hA.okM (r := outR b5 s') 0 rfl) (by omega) (by omega) hsn (by have := pre_len hF h0 h1 hj; rw [hsn, hsx]; simp only [List.length_append, List.length_cons, List.length_nil]; omega) (by omega)) ?_  -- 4:2 cable.go:79 t25 call
      intro s2 hs2
      refine J.splitM ?_
      refine J.done ?_
      refine X.inNormal ?_
      refine X.go ?_
      refine C.keep (.cons 4 rfl (.cons 5 rfl (.cons 6 rfl (.cons 7 rfl .nil)))) ?_
      refine C.reg ?_
      refine J.q rfl rfl rfl rfl (Q.add (.t 0 rfl) .c (by omega)) ?_  -- 5:0 cable.go:78 t26 binOp
      refine J.keep (.cons 0 rfl (.cons 2 rfl (.cons 3 rfl (.cons 4 rfl .nil)))) ?_
      refine J.q rfl rfl rfl rfl (Q.move (.t 0 rfl)) ?_  -- 5:1 cable.go:78 t19 move
      refine J.done ?_
      refine X.nx (⟨(i + 1, s2), by simp only; omega, by simp only; rw [hs2.1]; exact pre_take hj hsx, hs2.2⟩) (.cons 0 (by (first | rfl | (simp; done))) (.cons 2 (by (first | rfl | (simp; done))) (.cons 3 (by (first | rfl | (simp; done))) (.cons 4 (by (first | rfl | (simp; done))) .nil)))) ?_ ?_
      ·
        (exact fun _ h => h)
      ·
        simp; omega
    ·
      simp only [decide_eq_true_eq, decide_eq_false_iff_not, Bool.and_eq_true, Bool.or_eq_true, Bool.and_eq_false_iff, Bool.or_eq_false_iff, Bool.not_eq_true', Bool.not_eq_false', beq_iff_eq, bne_iff_ne, Int.not_lt, Int.not_le, Decidable.not_not, ne_eq] at c0
      refine C.exit ?_
      refine X.thenExit ?_
      refine X.thenExit ?_
      refine X.inHit ?_
      refine X.end0 rfl (fun w hA => ?_)
      exact PostU.of (X := Sl) s' ⟨pre_all hF h0 h1 (by omega) hsx, hsn⟩ (St.join hA)

theorem down_calls (c : Cable) (a : Option Addr) (cc : Nat) (t : Tree) (hF : Fit c) (hO : Opened c t) (b2 b5 b6 : Nat) : ∀ (f : Nat) (k : Int) (s : Sl) (w : World), (∀ r ∈ [bx b2 57 [.pointer (some ⟨t.p, 0, none⟩)], bx b6 89 [Value.func (.func 52) [].toArray [Value.pointer (some ⟨b5, 0, none⟩), Value.pointer (some ⟨b2, 0, none⟩), Value.pointer (some ⟨b6, 0, none⟩)].toArray], bx t.p 82 (c.tcells a cc t.q), bx t.q 33 (t.ss.flatMap Sl.enc), bigR (t.ss.map Sl.row)], r.ok w ∧ Apart (outR b5 s) r) → (outR b5 s).ok w → 0 ≤ k → k < c.nodes.length → s.n = s.xs.length → s.n + (pre c k).length ≤ 1000000 → c.nodes.length - k.toNat ≤ f → Calls Try.prog 52 [.int .i64 k, .pointer (some ⟨b5, 0, none⟩), .pointer (some ⟨b2, 0, none⟩), .pointer (some ⟨b6, 0, none⟩)].toArray w (PostU (fun s' : Sl => s'.xs = s.xs ++ pre c k ∧ s'.n = s'.xs.length) (fun _ => .tuple #[]) (outR b5 s) (fun s' => outR b5 s') w)
  | 0, k, s, w, _, _, h0, h1, _, _, hf => by omega
  | f + 1, k, s, w, hΦ, hs, h0, h1, hn, hb, hf => down_step c a cc t hF hO b2 b5 b6 f (down_calls c a cc t hF hO b2 b5 b6 f) k s w hΦ hs h0 h1 hn hb hf

theorem subtree_calls (w : World) (c : Cable) (a : Option Addr) (cc : Nat) (t : Tree) (hF : Fit c) (hO : Opened c t) (hT : (bigR (t.res c a cc)).ok w) (k : Int) (h0 : 0 ≤ k) (h1 : k < c.nodes.length) : Calls Try.prog 32 [.pointer (some ⟨t.p, 0, none⟩), .int .i64 k].toArray w (PostN (fun s : Sl => s.xs = subtree c k ∧ s.n = s.xs.length) (fun s => s.val) (fun s => s.grow) w) := by
  refine Calls.enter Try.func32 rfl rfl rfl ?_
  refine C.conseq (A' := St w no [] [bx t.p 82 (c.tcells a cc t.q), bx t.q 33 (t.ss.flatMap Sl.enc), bigR (t.ss.map Sl.row)]) (fun _ e => by subst e; exact St.init _ _ (by have h := bigR.ok_iff.1 hT; have h2 : (bigR (t.ss.map Sl.row)).ok _ := bigR.ok_iff.2 (fun r hr => h r (by simp only [Tree.res]; exact List.mem_cons_of_mem _ (List.mem_cons_of_mem _ hr))); intro i hi; simp only [List.mem_cons, List.not_mem_nil, or_false] at hi; rcases hi with rfl | rfl | rfl; exact h _ (by simp [Tree.res]); exact h _ (by simp [Tree.res]); exact h2)) ?_
  refine C.seq ?_
  refine C.reg ?_
  refine J.box rfl rfl rfl rfl (.t 0 rfl) rfl ?_; intro b2 hb2  -- 0:0 cable.go:73 t2 box
  refine J.q rfl rfl rfl rfl (Q.assign .c) ?_  -- 0:1 cable.go:73 t4 assign
  refine J.end_ ?_
  refine C.keep (.cons 1 rfl (.cons 3 rfl .nil)) ?_
  refine C.seq ?_
  refine C.reg ?_
  refine J.alloc rfl rfl rfl rfl Try.zeroValue33 rfl ?_; intro b5 hb5  -- 1:0 cable.go:74 t5 alloc
  refine J.end_ ?_
  refine C.seq ?_
  refine C.reg ?_
  refine J.alloc rfl rfl rfl rfl Try.zeroValue89 rfl ?_; intro b6 hb6  -- 2:0 cable.go:75 t6 alloc
  refine J.end_ ?_
  refine C.seq ?_
  refine C.reg ?_
  refine J.q rfl rfl rfl rfl (Q.makeFunc .nil (.cons (.t 1 rfl) (.cons (.t 2 rfl) (.cons (.t 0 rfl) .nil)))) ?_  -- 3:0 cable.go:76 t7 makeFunc
  refine J.s rfl rfl rfl (S.storeP (.t 1 rfl) (.t 0 rfl) Try.sizeOf89 rfl rfl (by (first | exact Nd.enc_one _ | (first | exact Span.enc_one _ | ((intro u hu; simp at hu; first | done | ((repeat' (rcases hu with rfl | hu)) <;> (try subst hu) <;> rfl)))))) (by (repeat (first | exact Upd.here | apply Upd.there))) (by (repeat constructor); done)) ?_  -- 3:1 cable.go:76 tNone store
  refine J.end_ ?_
  refine C.keep (.cons 1 rfl (.cons 2 rfl (.cons 4 rfl .nil))) ?_
  refine C.seq ?_
  refine C.reg ?_
  refine J.q rfl rfl rfl rfl (Q.load (.t 0 rfl) Try.isAgg89 (by first | (first | exact ldT 1 0 rfl (by repeat constructor) | exact ldTΦ 1 0 rfl (by repeat constructor) | exact ldT 1 1 rfl (by repeat constructor) | exact ldTΦ 1 1 rfl (by repeat constructor) | exact ldT 1 2 rfl (by repeat constructor) | exact ldTΦ 1 2 rfl (by repeat constructor) | exact ldT 1 3 rfl (by repeat constructor) | exact ldTΦ 1 3 rfl (by repeat constructor) | exact ldT 1 4 rfl (by repeat constructor) | exact ldTΦ 1 4 rfl (by repeat constructor) | exact ldT 1 5 rfl (by repeat constructor) | exact ldTΦ 1 5 rfl (by repeat constructor) | exact ldT 1 6 rfl (by repeat constructor) | exact ldO 0 rfl (by assumption) | exact ldO 1 rfl (by assumption) | exact ldO 2 rfl (by assumption) | exact ldO 3 rfl (by assumption) | exact ldOT 1 0 rfl (by assumption) (by repeat constructor) | exact ldOT 1 1 rfl (by assumption) (by repeat constructor) | exact ldOT 1 2 rfl (by assumption) (by repeat constructor) | exact ldOT 1 3 rfl (by assumption) (by repeat constructor)) | (first | exact ldO1 0 rfl (by assumption) rfl | exact ldO1 1 rfl (by assumption) rfl | exact ldO1 2 rfl (by assumption) rfl | exact ldO1 3 rfl (by assumption) rfl | exact ldO1 4 rfl (by assumption) rfl | exact ldO1 5 rfl (by assumption) rfl | exact ldM1 0 rfl (fun _ => rfl) (by assumption) rfl | exact ldM1 1 rfl (fun _ => rfl) (by assumption) rfl | exact ldM1 2 rfl (fun _ => rfl) (by assumption) rfl | exact ldM1 3 rfl (fun _ => rfl) (by assumption) rfl | exact ldM1 4 rfl (fun _ => rfl) (by assumption) rfl | exact ldM1 5 rfl (fun _ => rfl) (by assumption) rfl))) ?_  -- 4:0 cable.go:82 t8 load
  refine J.q rfl rfl rfl rfl (Q.move (.t 3 rfl)) ?_  -- 4:1 cable.go:82 t9 move
  refine J.conseq (A' := St w no [outR b5 ⟨none, 0, 0, []⟩] [bx b2 57 [.pointer (some ⟨t.p, 0, none⟩)], bx b6 89 [Value.func (.func 52) [].toArray [Value.pointer (some ⟨b5, 0, none⟩), Value.pointer (some ⟨b2, 0, none⟩), Value.pointer (some ⟨b6, 0, none⟩)].toArray], bx t.p 82 (c.tcells a cc t.q), bx t.q 33 (t.ss.flatMap Sl.enc), bigR (t.ss.map Sl.row)]) (fun _ h => ((St.newG (e := 3) (sz := 1) ((h.freeze).front (.there .here)).freeze).to (M' := [bx b5 33 [(⟨none, 0, 0, []⟩ : Sl).val], (⟨none, 0, 0, []⟩ : Sl).grow]) (by (repeat (first | exact PermL.same | refine PermL.cons (by (repeat (first | exact Pick.here | apply Pick.there)); done) ?_ | exact PermL.drop | refine PermL.skip ?_)); done)).joinO) ?_
  refine J.callU rfl rfl rfl rfl (run_closure (first := []) Try.call52 (.t 1 rfl) (.cons (.t 0 rfl) .nil) rfl) (fun _ => .here) (fun w hA => down_calls c a cc t hF hO b2 b5 b6 _ k ⟨none, 0, 0, []⟩ w (fun r hr => ⟨⟨(hA.imm r hr).1, (hA.imm r hr).2.1⟩, (hA.imm r hr).2.2 _ (List.mem_cons_self ..)⟩) (hA.okM (r := outR b5 ⟨none, 0, 0, []⟩) 0 rfl) h0 h1 rfl (by have := pre_len60 hF h0 h1; simp only; omega) (Nat.le_refl _)) ?_  -- 4:2 cable.go:82 t10 call
  intro s2 hs2
  refine J.splitM ?_
  simp only [List.nil_append] at hs2
  refine J.end_ ?_
  refine C.keep (.cons 4 rfl .nil) ?_
  refine C.seq ?_
  refine C.reg ?_
  refine J.q rfl rfl rfl rfl (Q.load (.t 0 rfl) Try.isAgg33 (by first | (first | exact ldT 1 0 rfl (by repeat constructor) | exact ldTΦ 1 0 rfl (by repeat constructor) | exact ldT 1 1 rfl (by repeat constructor) | exact ldTΦ 1 1 rfl (by repeat constructor) | exact ldT 1 2 rfl (by repeat constructor) | exact ldTΦ 1 2 rfl (by repeat constructor) | exact ldT 1 3 rfl (by repeat constructor) | exact ldTΦ 1 3 rfl (by repeat constructor) | exact ldT 1 4 rfl (by repeat constructor) | exact ldTΦ 1 4 rfl (by repeat constructor) | exact ldT 1 5 rfl (by repeat constructor) | exact ldTΦ 1 5 rfl (by repeat constructor) | exact ldT 1 6 rfl (by repeat constructor) | exact ldO 0 rfl (by assumption) | exact ldO 1 rfl (by assumption) | exact ldO 2 rfl (by assumption) | exact ldO 3 rfl (by assumption) | exact ldOT 1 0 rfl (by assumption) (by repeat constructor) | exact ldOT 1 1 rfl (by assumption) (by repeat constructor) | exact ldOT 1 2 rfl (by assumption) (by repeat constructor) | exact ldOT 1 3 rfl (by assumption) (by repeat constructor)) | (first | exact ldO1 0 rfl (by assumption) rfl | exact ldO1 1 rfl (by assumption) rfl | exact ldO1 2 rfl (by assumption) rfl | exact ldO1 3 rfl (by assumption) rfl | exact ldO1 4 rfl (by assumption) rfl | exact ldO1 5 rfl (by assumption) rfl | exact ldM1 0 rfl (fun _ => rfl) (by assumption) rfl | exact ldM1 1 rfl (fun _ => rfl) (by assumption) rfl | exact ldM1 2 rfl (fun _ => rfl) (by assumption) rfl | exact ldM1 3 rfl (fun _ => rfl) (by assumption) rfl | exact ldM1 4 rfl (fun _ => rfl) (by assumption) rfl | exact ldM1 5 rfl (fun _ => rfl) (by assumption) rfl))) ?_  -- 5:0 cable.go:83 t11 load
  refine J.callU rfl rfl rfl rfl (run_static Try.call53 .f (.cons (.t 0 rfl) .nil) rfl) (fun _ => .there .here) (fun w hA => sort_int_grown Try.laysSort (hA.okM (r := rowG 3 1 s2.a s2.n s2.c (s2.xs.map I64)) 1 rfl) (by rw [hs2.1, pre_step hF h0 h1]; simp) (by have := pre_len60 hF h0 h1; rw [hs2.1]; omega)) ?_  -- 5:1 cable.go:83 t12 call
  intro _ _
  refine J.end_ ?_
  refine C.keep (.cons 2 rfl .nil) ?_
  refine C.seq ?_
  refine C.reg ?_
  refine J.q rfl rfl rfl rfl (Q.load (.t 0 rfl) Try.isAgg33 (by first | (first | exact ldT 1 0 rfl (by repeat constructor) | exact ldTΦ 1 0 rfl (by repeat constructor) | exact ldT 1 1 rfl (by repeat constructor) | exact ldTΦ 1 1 rfl (by repeat constructor) | exact ldT 1 2 rfl (by repeat constructor) | exact ldTΦ 1 2 rfl (by repeat constructor) | exact ldT 1 3 rfl (by repeat constructor) | exact ldTΦ 1 3 rfl (by repeat constructor) | exact ldT 1 4 rfl (by repeat constructor) | exact ldTΦ 1 4 rfl (by repeat constructor) | exact ldT 1 5 rfl (by repeat constructor) | exact ldTΦ 1 5 rfl (by repeat constructor) | exact ldT 1 6 rfl (by repeat constructor) | exact ldO 0 rfl (by assumption) | exact ldO 1 rfl (by assumption) | exact ldO 2 rfl (by assumption) | exact ldO 3 rfl (by assumption) | exact ldOT 1 0 rfl (by assumption) (by repeat constructor) | exact ldOT 1 1 rfl (by assumption) (by repeat constructor) | exact ldOT 1 2 rfl (by assumption) (by repeat constructor) | exact ldOT 1 3 rfl (by assumption) (by repeat constructor)) | (first | exact ldO1 0 rfl (by assumption) rfl | exact ldO1 1 rfl (by assumption) rfl | exact ldO1 2 rfl (by assumption) rfl | exact ldO1 3 rfl (by assumption) rfl | exact ldO1 4 rfl (by assumption) rfl | exact ldO1 5 rfl (by assumption) rfl | exact ldM1 0 rfl (fun _ => rfl) (by assumption) rfl | exact ldM1 1 rfl (fun _ => rfl) (by assumption) rfl | exact ldM1 2 rfl (fun _ => rfl) (by assumption) rfl | exact ldM1 3 rfl (fun _ => rfl) (by assumption) rfl | exact ldM1 4 rfl (fun _ => rfl) (by assumption) rfl | exact ldM1 5 rfl (fun _ => rfl) (by assumption) rfl))) ?_  -- 6:0 cable.go:84 t13 load
  refine J.q rfl rfl rfl rfl (Q.assign (.t 0 rfl)) ?_  -- 6:1 cable.go:84 t4 assign
  refine J.end_ ?_
  refine C.keep (.cons 0 rfl .nil) ?_
  refine C.ret ?_
  refine X.ret1 rfl 0 rfl (fun w hA => ?_)
  exact PostN.of (X := Sl) ⟨s2.a, s2.n, s2.c, subtree c k⟩ ⟨rfl, by rw [hs2.2, hs2.1, ← pre_sorted hF h0 h1]; simp⟩ (by rw [hs2.1, pre_sorted hF h0 h1] at hA; exact hA.front (.there .here))

end Go.Proofs
namespace Go.Proofs
open Go Go.J Go.RowKit Go.Cab
set_option maxRecDepth 4096
set_option linter.unusedSimpArgs false
set_option linter.unusedVariables false
theorem Subtree_ok (w : World) (c : Cable) (a : Option Addr) (cc : Nat) (hr : (rowO a 8 Nd.enc c.nodes).ok w) (hcc : c.nodes.length ≤ cc) (h : c.check = 0) (k : Int) (h0 : 0 ≤ k) (h1 : k < c.nodes.length) : Calls Try.prog 17 [.agg (c.cells a cc).toArray, .int .i64 k].toArray w (PostN (fun s : Sl => s.xs = subtree c k ∧ s.n = s.xs.length) (fun s => .tuple [s.val, .int .i64 0].toArray) (fun s => s.grow) w) := by
  have hF := Fit.of h
  have hn0 := hF.pos
  have hn60 := hF.le
  obtain ⟨b, o, rfl⟩ := rowO.addr hr.1 (by omega)
  refine Calls.enter Try.func17 rfl rfl rfl ?_
  refine C.conseq (A' := St w no [] [rowO (some ⟨b, o, none⟩) 8 Nd.enc c.nodes]) (fun _ e => by subst e; exact St.init _ _ (by simp [hr])) ?_
  refine C.seq ?_
  refine C.reg ?_
  refine J.box rfl rfl rfl rfl (.t 0 rfl) rfl ?_; intro b2 hb2  -- 0:0 cable.go:100 t2 box
  refine J.q rfl rfl rfl rfl (Q.assign .c) ?_  -- 0:1 cable.go:100 t4 assign
  refine J.q rfl rfl rfl rfl (Q.assign .c) ?_  -- 0:2 cable.go:100 t5 assign
  refine J.end_ ?_
  refine C.keep (.cons 2 rfl (.cons 4 rfl .nil)) ?_
  refine C.seq ?_
  refine C.reg ?_
  refine J.q rfl rfl rfl rfl (Q.loadsV (.t 0 rfl) ⟨Try.isAgg26, Try.sizeOf26⟩ (by first | (first | exact ldT 3 0 rfl (by repeat constructor) | exact ldTΦ 3 0 rfl (by repeat constructor) | exact ldT 3 1 rfl (by repeat constructor) | exact ldTΦ 3 1 rfl (by repeat constructor) | exact ldT 3 2 rfl (by repeat constructor) | exact ldTΦ 3 2 rfl (by repeat constructor) | exact ldT 3 3 rfl (by repeat constructor) | exact ldTΦ 3 3 rfl (by repeat constructor) | exact ldT 3 4 rfl (by repeat constructor) | exact ldTΦ 3 4 rfl (by repeat constructor) | exact ldT 3 5 rfl (by repeat constructor) | exact ldTΦ 3 5 rfl (by repeat constructor) | exact ldT 3 6 rfl (by repeat constructor) | exact ldO 0 rfl (by assumption) | exact ldO 1 rfl (by assumption) | exact ldO 2 rfl (by assumption) | exact ldO 3 rfl (by assumption) | exact ldOT 3 0 rfl (by assumption) (by repeat constructor) | exact ldOT 3 1 rfl (by assumption) (by repeat constructor) | exact ldOT 3 2 rfl (by assumption) (by repeat constructor) | exact ldOT 3 3 rfl (by assumption) (by repeat constructor)) | (first | exact ldO1 0 rfl (by assumption) rfl | exact ldO1 1 rfl (by assumption) rfl | exact ldO1 2 rfl (by assumption) rfl | exact ldO1 3 rfl (by assumption) rfl | exact ldO1 4 rfl (by assumption) rfl | exact ldO1 5 rfl (by assumption) rfl | exact ldM1 0 rfl (fun _ => rfl) (by assumption) rfl | exact ldM1 1 rfl (fun _ => rfl) (by assumption) rfl | exact ldM1 2 rfl (fun _ => rfl) (by assumption) rfl | exact ldM1 3 rfl (fun _ => rfl) (by assumption) rfl | exact ldM1 4 rfl (fun _ => rfl) (by assumption) rfl | exact ldM1 5 rfl (fun _ => rfl) (by assumption) rfl)) rfl) ?_  -- 1:0 cable.go:101 t9 load
  refine J.callS rfl rfl rfl rfl (run_static Try.call23 .f (.cons (.t 0 rfl) .nil) rfl) (fun w hA => open_ok w c _ cc (hA.ok (r := rowO _ 8 Nd.enc c.nodes) 0 rfl) hcc h) ?_  -- 1:1 cable.go:101 t10 call
  intro t ht
  refine openTree 0 rfl ?_
  refine J.q rfl rfl rfl rfl (Q.move (.t 0 rfl)) ?_  -- 1:2 cable.go:101 t8 move
  refine J.q rfl rfl rfl rfl (Q.extract (.t 0 rfl) rfl) ?_  -- 1:3 cable.go:101 t11 extract
  refine J.q rfl rfl rfl rfl (Q.extract (.t 1 rfl) rfl) ?_  -- 1:4 cable.go:101 t12 extract
  refine J.q rfl rfl rfl rfl (Q.assign (.t 1 rfl)) ?_  -- 1:5 cable.go:101 t6 assign
  refine J.q rfl rfl rfl rfl (Q.assign (.t 1 rfl)) ?_  -- 1:6 cable.go:101 t7 assign
  refine J.end_ ?_
  refine C.keep (.cons 0 rfl (.cons 1 rfl (.cons 8 rfl .nil))) ?_
  refine C.seq ?_
  refine C.seq ?_
  refine C.reg ?_
  refine J.q rfl rfl rfl rfl (Q.move (.t 0 rfl)) ?_  -- 2:0 cable.go:102 t13 move
  refine J.q rfl rfl rfl rfl (Q.neq (.t 0 rfl) .c) ?_  -- 2:1 cable.go:102 t14 binOp
  refine J.end_ ?_
  refine C.keep (.cons 0 rfl (.cons 2 rfl (.cons 3 rfl (.cons 4 rfl .nil)))) ?_
  refine C.cond (.t 0 rfl) (fun c0 => ?_) (fun c0 => ?_)  -- cond 0
  ·
    exact absurd c0 (by simp)
  ·
    refine C.skip ?_
    refine X.go ?_
    refine C.keep (.cons 2 rfl (.cons 3 rfl .nil)) ?_
    refine C.seq ?_
    refine C.seq ?_
    refine C.reg ?_
    refine J.q rfl rfl rfl rfl (Q.move (.t 0 rfl)) ?_  -- 4:0 cable.go:105 t16 move
    refine J.q rfl rfl rfl rfl (Q.move (.t 2 rfl)) ?_  -- 4:1 cable.go:105 t17 move
    refine J.callV rfl rfl rfl rfl (run_static Try.call30 .f (.cons (.t 1 rfl) (.cons (.t 0 rfl) .nil)) rfl) (fun w hA => has_calls w c _ cc t.p t.q k (hA.ok (r := bx t.p 82 (c.tcells (some ⟨b, o, none⟩) cc t.q)) 1 rfl)) ?_  -- 4:2 cable.go:105 t18 call
    refine J.q rfl rfl rfl rfl (Q.not_ (.t 0 rfl)) ?_  -- 4:3 cable.go:105 t19 unOp
    refine J.end_ ?_
    refine C.keep (.cons 0 rfl (.cons 4 rfl (.cons 5 rfl .nil))) ?_
    refine C.cond (.t 0 rfl) (fun c1 => ?_) (fun c1 => ?_)  -- cond 1
    ·
      exact absurd c1 (by simp [h0, h1])
    ·
      refine C.skip ?_
      refine X.go ?_
      refine C.keep (.cons 1 rfl (.cons 2 rfl .nil)) ?_
      refine C.seq ?_
      refine C.reg ?_
      refine J.q rfl rfl rfl rfl (Q.move (.t 0 rfl)) ?_  -- 6:0 cable.go:108 t20 move
      refine J.q rfl rfl rfl rfl (Q.move (.t 2 rfl)) ?_  -- 6:1 cable.go:108 t21 move
      refine J.callN rfl rfl rfl rfl (run_static Try.call32 .f (.cons (.t 1 rfl) (.cons (.t 0 rfl) .nil)) rfl) (fun w hA => subtree_calls w c (some ⟨b, o, none⟩) cc t hF ht (hA.ok (r := bigR (t.res c (some ⟨b, o, none⟩) cc)) 2 rfl) k h0 h1) ?_  -- 6:2 cable.go:108 t22 call
      intro s hs
      refine J.q rfl rfl rfl rfl (Q.assign (.t 0 rfl)) ?_  -- 6:3 cable.go:108 t4 assign
      refine J.q rfl rfl rfl rfl (Q.assign .c) ?_  -- 6:4 cable.go:108 t5 assign
      refine J.end_ ?_
      refine C.keep (.cons 0 rfl (.cons 1 rfl .nil)) ?_
      refine C.ret ?_
      refine X.ret2 rfl 1 0 rfl rfl (fun w hA => ?_)
      exact PostN.of (X := Sl) s hs hA

end Go.Proofs
namespace Go.Proofs
open Go Go.J Go.RowKit Go.Cab
set_option maxRecDepth 4096
set_option linter.unusedSimpArgs false
set_option linter.unusedVariables false
/-- the breaker's delay of a node -/
def _root_.Go.Cab.Cable.dly (c : Cable) (k : Nat) : Int := match c.nodes[k]? with | some n => n.delay | none => -1
def _root_.Go.Cab.Cable.breaker (c : Cable) (k : Int) : Bool := decide (0 ≤ k) && decide (k < c.nodes.length) && decide (c.dly k.toNat ≠ -1)

theorem breaker_calls (w : World) (c : Cable) (a : Option Addr) (cc p q : Nat) (hr : (rowO a 8 Nd.enc c.nodes).ok w) (ht : (bx p 82 (c.tcells a cc q)).ok w) (k : Int) : Calls Try.prog 57 [.pointer (some ⟨p, 0, none⟩), .int .i64 k].toArray w (PostV (.bool (c.breaker k)) w) := by
  refine Calls.enter Try.func57 rfl rfl rfl ?_
  refine C.conseq (A' := St w no [] [bx p 82 (c.tcells a cc q), rowO a 8 Nd.enc c.nodes]) (fun _ e => by subst e; exact St.init _ _ (by simp [hr, ht])) ?_
  refine C.seq ?_
  refine C.reg ?_
  refine J.q rfl rfl rfl rfl (Q.assign .c) ?_  -- 0:0 cable.go:267 t4 assign
  refine J.end_ ?_
  refine C.keep (.cons 1 rfl (.cons 2 rfl .nil)) ?_
  refine C.seq ?_
  refine C.reg ?_
  refine J.q rfl rfl rfl rfl (Q.move (.t 0 rfl)) ?_  -- 1:0 cable.go:267 t5 move
  refine J.q rfl rfl rfl rfl (Q.move (.t 2 rfl)) ?_  -- 1:1 cable.go:267 t6 move
  refine J.callV rfl rfl rfl rfl (run_static Try.call30 .f (.cons (.t 1 rfl) (.cons (.t 0 rfl) .nil)) rfl) (fun w hA => has_calls w c a cc p q k (hA.ok (r := bx p 82 (c.tcells a cc q)) 0 rfl)) ?_  -- 1:2 cable.go:267 t7 call
  refine J.q rfl rfl rfl rfl (Q.move (.t 0 rfl)) ?_  -- 1:3 cable.go:267 t8 move
  refine J.split 0 rfl (fun hb => ?_) (fun hb => ?_)
  ·
    have hb' := hb; simp only [decide_eq_true_eq, decide_eq_false_iff_not, Bool.and_eq_true, Bool.or_eq_true, Bool.and_eq_false_iff, Bool.or_eq_false_iff, Bool.not_eq_true', Bool.not_eq_false', beq_iff_eq, bne_iff_ne, Int.not_lt, Int.not_le, Decidable.not_not, ne_eq] at hb'
    obtain ⟨x, hx⟩ := get_lt (xs := c.nodes) (i := k.toNat) (by omega)
    obtain ⟨b, o, rfl⟩ := rowO.addr hr.1 (by omega)
    refine J.gT (Gd.one rfl rfl rfl (.t 0 rfl)) (by simp [hb]) ?_  -- 1:4 cable.go:267 t9 move
    refine J.q rfl rfl rfl rfl (Q.move (.t 4 rfl)) ?_  -- 1:4 cable.go:267 t9 move
    refine J.gT (Gd.one rfl rfl rfl (.t 1 rfl)) (by simp [hb]) ?_  -- 1:5 cable.go:267 t10 nilCheck
    refine J.q rfl rfl rfl rfl (Q.nilCheck (.t 0 rfl)) ?_  -- 1:5 cable.go:267 t10 nilCheck
    refine J.gT (Gd.one rfl rfl rfl (.t 2 rfl)) (by simp [hb]) ?_  -- 1:6 cable.go:267 t11 fieldAddr
    refine J.q rfl rfl rfl rfl (Q.fa 0 Try.underlying82 rfl Try.sizeOf26 rfl rfl (.t 0 rfl)) ?_  -- 1:6 cable.go:267 t11 fieldAddr
    refine J.gT (Gd.one rfl rfl rfl (.t 3 rfl)) (by simp [hb]) ?_  -- 1:7 cable.go:267 t12 fieldAddr
    refine J.q rfl rfl rfl rfl (Q.fa 2 Try.underlying26 rfl Try.sizeOf24 rfl rfl (.t 0 rfl)) ?_  -- 1:7 cable.go:267 t12 fieldAddr
    refine J.gT (Gd.one rfl rfl rfl (.t 4 rfl)) (by simp [hb]) ?_  -- 1:8 cable.go:267 t13 load
    refine J.q rfl rfl rfl rfl (Q.load (.t 0 rfl) Try.isAgg24 (by first | (first | exact ldT 1 0 rfl (by repeat constructor) | exact ldTΦ 1 0 rfl (by repeat constructor) | exact ldT 1 1 rfl (by repeat constructor) | exact ldTΦ 1 1 rfl (by repeat constructor) | exact ldT 1 2 rfl (by repeat constructor) | exact ldTΦ 1 2 rfl (by repeat constructor) | exact ldT 1 3 rfl (by repeat constructor) | exact ldTΦ 1 3 rfl (by repeat constructor) | exact ldT 1 4 rfl (by repeat constructor) | exact ldTΦ 1 4 rfl (by repeat constructor) | exact ldT 1 5 rfl (by repeat constructor) | exact ldTΦ 1 5 rfl (by repeat constructor) | exact ldT 1 6 rfl (by repeat constructor) | exact ldO 0 rfl (by assumption) | exact ldO 1 rfl (by assumption) | exact ldO 2 rfl (by assumption) | exact ldO 3 rfl (by assumption) | exact ldOT 1 0 rfl (by assumption) (by repeat constructor) | exact ldOT 1 1 rfl (by assumption) (by repeat constructor) | exact ldOT 1 2 rfl (by assumption) (by repeat constructor) | exact ldOT 1 3 rfl (by assumption) (by repeat constructor)) | (first | exact ldO1 0 rfl (by assumption) rfl | exact ldO1 1 rfl (by assumption) rfl | exact ldO1 2 rfl (by assumption) rfl | exact ldO1 3 rfl (by assumption) rfl | exact ldO1 4 rfl (by assumption) rfl | exact ldO1 5 rfl (by assumption) rfl | exact ldM1 0 rfl (fun _ => rfl) (by assumption) rfl | exact ldM1 1 rfl (fun _ => rfl) (by assumption) rfl | exact ldM1 2 rfl (fun _ => rfl) (by assumption) rfl | exact ldM1 3 rfl (fun _ => rfl) (by assumption) rfl | exact ldM1 4 rfl (fun _ => rfl) (by assumption) rfl | exact ldM1 5 rfl (fun _ => rfl) (by assumption) rfl))) ?_  -- 1:8 cable.go:267 t13 load
    refine J.gT (Gd.one rfl rfl rfl (.t 5 rfl)) (by simp [hb]) ?_  -- 1:9 cable.go:267 t14 move
    refine J.q rfl rfl rfl rfl (Q.move (.t 10 rfl)) ?_  -- 1:9 cable.go:267 t14 move
    refine J.gT (Gd.one rfl rfl rfl (.t 6 rfl)) (by simp [hb]) ?_  -- 1:10 cable.go:267 t15 indexAddr
    refine J.q rfl rfl rfl rfl (Q.indexAddr Try.underlying24 Try.sizeOf40 (.t 1 rfl) (.t 0 rfl) (by omega)) ?_  -- 1:10 cable.go:267 t15 indexAddr
    refine J.gT (Gd.one rfl rfl rfl (.t 7 rfl)) (by simp [hb]) ?_  -- 1:11 cable.go:267 t16 fieldAddr
    refine J.q rfl rfl rfl rfl (Q.fa 7 Try.underlying40 rfl Try.sizeOf2 rfl rfl (.t 0 rfl)) ?_  -- 1:11 cable.go:267 t16 fieldAddr
    refine J.gT (Gd.one rfl rfl rfl (.t 8 rfl)) (by simp [hb]) ?_  -- 1:12 cable.go:267 t17 load
    refine J.q rfl rfl rfl rfl (Q.load (.t 0 rfl) Try.isAgg2 (by exact ldOT 1 1 rfl hx (by (repeat constructor); done))) ?_  -- 1:12 cable.go:267 t17 load
    refine J.gT (Gd.one rfl rfl rfl (.t 9 rfl)) (by simp [hb]) ?_  -- 1:13 cable.go:267 t18 binOp
    refine J.q rfl rfl rfl rfl (Q.neq (.t 0 rfl) .c) ?_  -- 1:13 cable.go:267 t18 binOp
    refine J.q rfl rfl rfl rfl (Q.pickTb (.t 10 rfl) (by exact hb) (.t 0 rfl)) ?_  -- 1:14 cable.go:267 t19 pick
    refine J.q rfl rfl rfl rfl (Q.assign (.t 0 rfl)) ?_  -- 1:15 cable.go:267 t4 assign
    refine J.end_ ?_
    refine C.keep (.cons 0 rfl .nil) ?_
    refine C.ret ?_
    refine X.ret1 rfl 0 rfl (fun w hA => ?_)
    exact PostV.eq hA (by rw [Cable.breaker, Cable.dly, hx]; simp [hb'.1, hb'.2])
  ·
    have hb' := hb; simp only [decide_eq_true_eq, decide_eq_false_iff_not, Bool.and_eq_true, Bool.or_eq_true, Bool.and_eq_false_iff, Bool.or_eq_false_iff, Bool.not_eq_true', Bool.not_eq_false', beq_iff_eq, bne_iff_ne, Int.not_lt, Int.not_le, Decidable.not_not, ne_eq] at hb'
    refine J.gF (Gd.one rfl rfl rfl (.t 0 rfl)) (by simp [hb]) rfl rfl ?_  -- 1:4 cable.go:267 t9 move
    refine J.gF (Gd.one rfl rfl rfl (.t 0 rfl)) (by simp [hb]) rfl rfl ?_  -- 1:5 cable.go:267 t10 nilCheck
    refine J.gF (Gd.one rfl rfl rfl (.t 0 rfl)) (by simp [hb]) rfl rfl ?_  -- 1:6 cable.go:267 t11 fieldAddr
    refine J.gF (Gd.one rfl rfl rfl (.t 0 rfl)) (by simp [hb]) rfl rfl ?_  -- 1:7 cable.go:267 t12 fieldAddr
    refine J.gF (Gd.one rfl rfl rfl (.t 0 rfl)) (by simp [hb]) rfl rfl ?_  -- 1:8 cable.go:267 t13 load
    refine J.gF (Gd.one rfl rfl rfl (.t 0 rfl)) (by simp [hb]) rfl rfl ?_  -- 1:9 cable.go:267 t14 move
    refine J.gF (Gd.one rfl rfl rfl (.t 0 rfl)) (by simp [hb]) rfl rfl ?_  -- 1:10 cable.go:267 t15 indexAddr
    refine J.gF (Gd.one rfl rfl rfl (.t 0 rfl)) (by simp [hb]) rfl rfl ?_  -- 1:11 cable.go:267 t16 fieldAddr
    refine J.gF (Gd.one rfl rfl rfl (.t 0 rfl)) (by simp [hb]) rfl rfl ?_  -- 1:12 cable.go:267 t17 load
    refine J.gF (Gd.one rfl rfl rfl (.t 0 rfl)) (by simp [hb]) rfl rfl ?_  -- 1:13 cable.go:267 t18 binOp
    refine J.q rfl rfl rfl rfl (Q.pickFb (.t 0 rfl) (by exact hb) .c) ?_  -- 1:14 cable.go:267 t19 pick
    refine J.q rfl rfl rfl rfl (Q.assign (.t 0 rfl)) ?_  -- 1:15 cable.go:267 t4 assign
    refine J.end_ ?_
    refine C.keep (.cons 0 rfl .nil) ?_
    refine C.ret ?_
    refine X.ret1 rfl 0 rfl (fun w hA => ?_)
    exact PostV.eq hA (by simp only [Cable.breaker, hb]; rfl)

theorem Index_calls (w : World) (a : Option Addr) (c : Nat) (xs : List Int) (v : Int) (hr : (rowO a 1 enI xs).ok w) (hn : xs.length < 9223372036854775807) : Calls Try.prog 69 [.slice a xs.length c, .int .i64 v].toArray w (PostV (.int .i64 (idx (fun x => decide (v = x)) xs)) w) := by
  refine Calls.enter Try.func69 rfl rfl rfl ?_
  refine C.conseq (A' := St w no [] [rowO a 1 enI xs]) (fun _ e => by subst e; exact St.init _ _ (by simpa using hr)) ?_
  refine C.seq ?_
  refine C.reg ?_
  refine J.q rfl rfl rfl rfl (Q.assign .c) ?_  -- 0:0 slices.go:96 t4 assign
  refine J.end_ ?_
  refine C.keep (.cons 1 rfl (.cons 2 rfl .nil)) ?_
  refine C.seq ?_
  refine C.seq ?_
  refine C.reg ?_
  refine J.q rfl rfl rfl rfl (Q.move (.t 0 rfl)) ?_  -- 1:0 slices.go:97 t6 move
  refine J.q rfl rfl rfl rfl (Q.len Try.underlying33 (.t 0 rfl)) ?_  -- 1:1 slices.go:97 t7 call
  refine J.q rfl rfl rfl rfl (Q.move .c) ?_  -- 1:2 slices.go:97 t8 move
  refine J.end_ ?_
  refine C.keep (.cons 0 rfl (.cons 1 rfl (.cons 3 rfl (.cons 4 rfl .nil)))) ?_
  refine C.block ?_
  refine C.loop_1 (fun i => .int .i64 (i.1 : Int)) (G := { i : Nat // i ≤ xs.length ∧ ∀ s ∈ xs.take i, decide (v = s) = false }) (fun i => St w no [] [rowO a 1 enI xs]) (fun i => xs.length - i.1) (⟨0, by simp⟩) (by (first | rfl | (simp; done))) ?_ ?_
  ·
    (exact fun _ h => h)
  ·
    rintro ⟨i, hi, hgood⟩
    dsimp only
    refine C.seq ?_
    refine C.reg ?_
    refine J.q rfl rfl rfl rfl (Q.lss (.t 0 rfl) (.t 1 rfl)) ?_  -- 2:0 slices.go:97 t9 binOp
    refine J.end_ ?_
    refine C.seq ?_
    refine C.cond (.t 0 rfl) (fun c0 => ?_) (fun c0 => ?_)  -- cond 0
    ·
      simp only [decide_eq_true_eq, decide_eq_false_iff_not, Bool.and_eq_true, Bool.or_eq_true, Bool.and_eq_false_iff, Bool.or_eq_false_iff, Bool.not_eq_true', Bool.not_eq_false', beq_iff_eq, bne_iff_ne, Int.not_lt, Int.not_le, Decidable.not_not, ne_eq] at c0
      have hlt : i < xs.length := by omega
      obtain ⟨x, hx⟩ := get_lt hlt
      obtain ⟨b, o, rfl⟩ := rowO.addr hr.1 (by omega)
      refine C.skip ?_
      refine X.go ?_
      refine C.keep (.cons 1 rfl (.cons 2 rfl (.cons 3 rfl (.cons 4 rfl .nil)))) ?_
      refine C.seq ?_
      refine C.block ?_
      refine C.seq ?_
      refine C.reg ?_
      refine J.q rfl rfl rfl rfl (Q.move (.t 0 rfl)) ?_  -- 3:0 slices.go:97 t10 move
      refine J.q rfl rfl rfl rfl (Q.assign (.t 0 rfl)) ?_  -- 3:1 slices.go:97 t5 assign
      refine J.end_ ?_
      refine C.keep (.cons 0 rfl (.cons 2 rfl (.cons 3 rfl (.cons 4 rfl (.cons 5 rfl .nil))))) ?_
      refine C.seq ?_
      refine C.reg ?_
      refine J.q rfl rfl rfl rfl (Q.move (.t 4 rfl)) ?_  -- 4:0 slices.go:98 t11 move
      refine J.q rfl rfl rfl rfl (Q.move (.t 4 rfl)) ?_  -- 4:1 slices.go:98 t12 move
      refine J.q rfl rfl rfl rfl (Q.move (.t 2 rfl)) ?_  -- 4:2 slices.go:98 t13 move
      refine J.q rfl rfl rfl rfl (Q.indexAddr Try.underlying33 Try.sizeOf3 (.t 1 rfl) (.t 0 rfl) (by omega)) ?_  -- 4:3 slices.go:98 t14 indexAddr
      refine J.q rfl rfl rfl rfl (Q.load (.t 0 rfl) Try.isAgg3 (by exact ldO1 0 rfl hx rfl)) ?_  -- 4:4 slices.go:98 t15 load
      refine J.q rfl rfl rfl rfl (Q.eql (.t 4 rfl) (.t 0 rfl)) ?_  -- 4:5 slices.go:98 t16 binOp
      refine J.end_ ?_
      refine C.keep (.cons 0 rfl (.cons 6 rfl (.cons 7 rfl (.cons 8 rfl (.cons 9 rfl (.cons 10 rfl .nil)))))) ?_
      refine C.cond (.t 0 rfl) (fun c1 => ?_) (fun c1 => ?_)  -- cond 1
      ·
        refine C.seq ?_
        refine C.reg ?_
        refine J.q rfl rfl rfl rfl (Q.move (.t 1 rfl)) ?_  -- 5:0 slices.go:99 t17 move
        refine J.q rfl rfl rfl rfl (Q.assign (.t 0 rfl)) ?_  -- 5:1 slices.go:99 t4 assign
        refine J.end_ ?_
        refine C.keep (.cons 0 rfl .nil) ?_
        refine C.ret ?_
        refine X.inRet ?_
        refine X.thenRet ?_
        refine X.thenRet ?_
        refine X.inRet ?_
        refine X.thenRet ?_
        refine X.ret1 rfl 0 rfl (fun w hA => ?_)
        exact PostV.eq hA (by rw [idx_found hx hgood c1])
      ·
        refine C.skip ?_
        refine X.inNormal ?_
        refine X.go ?_
        refine C.keep (.cons 2 rfl (.cons 3 rfl (.cons 4 rfl (.cons 5 rfl .nil)))) ?_
        refine C.reg ?_
        refine J.q rfl rfl rfl rfl (Q.add (.t 0 rfl) .c (by omega)) ?_  -- 6:0 slices.go:97 t18 binOp
        refine J.keep (.cons 0 rfl (.cons 2 rfl (.cons 3 rfl (.cons 4 rfl .nil)))) ?_
        refine J.q rfl rfl rfl rfl (Q.move (.t 0 rfl)) ?_  -- 6:1 slices.go:97 t8 move
        refine J.done ?_
        refine X.nx (⟨i + 1, by omega, take_succ_all hx hgood c1⟩) (.cons 0 (by (first | rfl | (simp; done))) (.cons 2 (by (first | rfl | (simp; done))) (.cons 3 (by (first | rfl | (simp; done))) (.cons 4 (by (first | rfl | (simp; done))) .nil)))) ?_ ?_
        ·
          (exact fun _ h => h)
        ·
          simp; omega
    ·
      simp only [decide_eq_true_eq, decide_eq_false_iff_not, Bool.and_eq_true, Bool.or_eq_true, Bool.and_eq_false_iff, Bool.or_eq_false_iff, Bool.not_eq_true', Bool.not_eq_false', beq_iff_eq, bne_iff_ne, Int.not_lt, Int.not_le, Decidable.not_not, ne_eq] at c0
      refine C.exit ?_
      refine X.thenExit ?_
      refine X.thenExit ?_
      refine X.inHit ?_
      refine X.go ?_
      refine C.keep .nil ?_
      refine C.seq ?_
      refine C.reg ?_
      refine J.q rfl rfl rfl rfl (Q.assign .c) ?_  -- 7:0 slices.go:102 t4 assign
      refine J.end_ ?_
      refine C.ret ?_
      refine X.ret1 rfl 0 rfl (fun w hA => ?_)
      exact PostV.eq hA (by rw [idx_none (by rw [List.take_of_length_le (by omega)] at hgood; exact hgood)])

theorem Contains_calls (w : World) (a : Option Addr) (c : Nat) (xs : List Int) (v : Int) (hr : (rowO a 1 enI xs).ok w) (hn : xs.length < 9223372036854775807) : Calls Try.prog 59 [.slice a xs.length c, .int .i64 v].toArray w (PostV (.bool (xs.any (fun x => decide (v = x)))) w) := by
  refine Calls.enter Try.func59 rfl rfl rfl ?_
  refine C.conseq (A' := St w no [] [rowO a 1 enI xs]) (fun _ e => by subst e; exact St.init _ _ (by simpa using hr)) ?_
  refine C.seq ?_
  refine C.reg ?_
  refine J.q rfl rfl rfl rfl (Q.assign .c) ?_  -- 0:0 slices.go:117 t4 assign
  refine J.end_ ?_
  refine C.keep (.cons 1 rfl (.cons 2 rfl .nil)) ?_
  refine C.seq ?_
  refine C.reg ?_
  refine J.q rfl rfl rfl rfl (Q.move (.t 0 rfl)) ?_  -- 1:0 slices.go:118 t5 move
  refine J.q rfl rfl rfl rfl (Q.move (.t 2 rfl)) ?_  -- 1:1 slices.go:118 t6 move
  refine J.callV rfl rfl rfl rfl (run_static Try.call69 .f (.cons (.t 1 rfl) (.cons (.t 0 rfl) .nil)) rfl) (fun w hA => Index_calls w a c xs v (hA.ok (r := rowO a 1 enI xs) 0 rfl) hn) ?_  -- 1:2 slices.go:118 t7 call
  refine J.q rfl rfl rfl rfl (Q.geq (.t 0 rfl) .c) ?_  -- 1:3 slices.go:118 t8 binOp
  refine J.q rfl rfl rfl rfl (Q.assign (.t 0 rfl)) ?_  -- 1:4 slices.go:118 t4 assign
  refine J.end_ ?_
  refine C.keep (.cons 0 rfl .nil) ?_
  refine C.ret ?_
  refine X.ret1 rfl 0 rfl (fun w hA => ?_)
  exact PostV.eq hA (by rw [idx_any])

theorem IndexFunc_calls (w : World) (a : Option Addr) (c : Nat) (xs : List Int) (hr : (rowO a 1 enI xs).ok w) (hn : xs.length < 9223372036854775807) (g : Nat) (cb : List Value) (eg : En Try.prog g) (pred : Int → Bool) (Φ : List Res) (hΦ : ∀ r ∈ Φ, r.ok w) (hp : ∀ x W, (∀ r ∈ Φ, r.ok W) → Calls Try.prog g ([] ++ [I64 x] ++ cb).toArray W (PostV (.bool (pred x)) W)) : Calls Try.prog 58 [.slice a xs.length c, .func (.func g) [].toArray cb.toArray].toArray w (PostV (.int .i64 (idx pred xs)) w) := by
  refine Calls.enter Try.func58 rfl rfl rfl ?_
  refine C.conseq (A' := St w no [] (rowO a 1 enI xs :: Φ)) (fun _ e => by subst e; exact St.init _ _ (by intro i hi; rcases List.mem_cons.1 hi with rfl | hi; exact hr; exact hΦ i hi)) ?_
  refine C.seq ?_
  refine C.reg ?_
  refine J.q rfl rfl rfl rfl (Q.assign .c) ?_  -- 0:0 slices.go:107 t4 assign
  refine J.end_ ?_
  refine C.keep (.cons 1 rfl (.cons 2 rfl .nil)) ?_
  refine C.seq ?_
  refine C.seq ?_
  refine C.reg ?_
  refine J.q rfl rfl rfl rfl (Q.move (.t 0 rfl)) ?_  -- 1:0 slices.go:108 t6 move
  refine J.q rfl rfl rfl rfl (Q.len Try.underlying33 (.t 0 rfl)) ?_  -- 1:1 slices.go:108 t7 call
  refine J.q rfl rfl rfl rfl (Q.move .c) ?_  -- 1:2 slices.go:108 t8 move
  refine J.end_ ?_
  refine C.keep (.cons 0 rfl (.cons 1 rfl (.cons 3 rfl (.cons 4 rfl .nil)))) ?_
  refine C.block ?_
  refine C.loop_1 (fun i => .int .i64 (i.1 : Int)) (G := { i : Nat // i ≤ xs.length ∧ ∀ s ∈ xs.take i, pred s = false }) (fun i => St w no [] (rowO a 1 enI xs :: Φ)) (fun i => xs.length - i.1) (⟨0, by simp⟩) (by (first | rfl | (simp; done))) ?_ ?_
  ·
    (exact fun _ h => h)
  ·
    rintro ⟨i, hi, hgood⟩
    dsimp only
    refine C.seq ?_
    refine C.reg ?_
    refine J.q rfl rfl rfl rfl (Q.lss (.t 0 rfl) (.t 1 rfl)) ?_  -- 2:0 slices.go:108 t9 binOp
    refine J.end_ ?_
    refine C.seq ?_
    refine C.cond (.t 0 rfl) (fun c0 => ?_) (fun c0 => ?_)  -- cond 0
    ·
      simp only [decide_eq_true_eq, decide_eq_false_iff_not, Bool.and_eq_true, Bool.or_eq_true, Bool.and_eq_false_iff, Bool.or_eq_false_iff, Bool.not_eq_true', Bool.not_eq_false', beq_iff_eq, bne_iff_ne, Int.not_lt, Int.not_le, Decidable.not_not, ne_eq] at c0
      have hlt : i < xs.length := by omega
      obtain ⟨x, hx⟩ := get_lt hlt
      obtain ⟨b, o, rfl⟩ := rowO.addr hr.1 (by omega)
      refine C.skip ?_
      refine X.go ?_
      refine C.keep (.cons 1 rfl (.cons 2 rfl (.cons 3 rfl (.cons 4 rfl .nil)))) ?_
      refine C.seq ?_
      refine C.block ?_
      refine C.seq ?_
      refine C.reg ?_
      refine J.q rfl rfl rfl rfl (Q.move (.t 0 rfl)) ?_  -- 3:0 slices.go:108 t10 move
      refine J.q rfl rfl rfl rfl (Q.assign (.t 0 rfl)) ?_  -- 3:1 slices.go:108 t5 assign
      refine J.end_ ?_
      refine C.keep (.cons 0 rfl (.cons 2 rfl (.cons 3 rfl (.cons 4 rfl (.cons 5 rfl .nil))))) ?_
      refine C.seq ?_
      refine C.reg ?_
      refine J.q rfl rfl rfl rfl (Q.move (.t 4 rfl)) ?_  -- 4:0 slices.go:109 t11 move
      refine J.q rfl rfl rfl rfl (Q.move (.t 4 rfl)) ?_  -- 4:1 slices.go:109 t12 move
      refine J.q rfl rfl rfl rfl (Q.move (.t 2 rfl)) ?_  -- 4:2 slices.go:109 t13 move
      refine J.q rfl rfl rfl rfl (Q.indexAddr Try.underlying33 Try.sizeOf3 (.t 1 rfl) (.t 0 rfl) (by omega)) ?_  -- 4:3 slices.go:109 t14 indexAddr
      refine J.q rfl rfl rfl rfl (Q.load (.t 0 rfl) Try.isAgg3 (by exact ldO1 0 rfl hx rfl)) ?_  -- 4:4 slices.go:109 t15 load
      refine J.callV rfl rfl rfl rfl (run_closure (first := []) eg (.t 4 rfl) (.cons (.t 0 rfl) .nil) rfl) (fun w hA => hp x w (fun r h => ⟨(hA.imm r (List.mem_cons_of_mem _ h)).1, (hA.imm r (List.mem_cons_of_mem _ h)).2.1⟩)) ?_  -- 4:5 slices.go:109 t16 call
      refine J.end_ ?_
      refine C.keep (.cons 0 rfl (.cons 6 rfl (.cons 7 rfl (.cons 8 rfl (.cons 9 rfl (.cons 10 rfl .nil)))))) ?_
      refine C.cond (.t 0 rfl) (fun c1 => ?_) (fun c1 => ?_)  -- cond 1
      ·
        refine C.seq ?_
        refine C.reg ?_
        refine J.q rfl rfl rfl rfl (Q.move (.t 1 rfl)) ?_  -- 5:0 slices.go:110 t17 move
        refine J.q rfl rfl rfl rfl (Q.assign (.t 0 rfl)) ?_  -- 5:1 slices.go:110 t4 assign
        refine J.end_ ?_
        refine C.keep (.cons 0 rfl .nil) ?_
        refine C.ret ?_
        refine X.inRet ?_
        refine X.thenRet ?_
        refine X.thenRet ?_
        refine X.inRet ?_
        refine X.thenRet ?_
        refine X.ret1 rfl 0 rfl (fun w hA => ?_)
        exact PostV.eq hA (by rw [idx_found hx hgood c1])
      ·
        refine C.skip ?_
        refine X.inNormal ?_
        refine X.go ?_
        refine C.keep (.cons 2 rfl (.cons 3 rfl (.cons 4 rfl (.cons 5 rfl .nil)))) ?_
        refine C.reg ?_
        refine J.q rfl rfl rfl rfl (Q.add (.t 0 rfl) .c (by omega)) ?_  -- 6:0 slices.go:108 t18 binOp
        refine J.keep (.cons 0 rfl (.cons 2 rfl (.cons 3 rfl (.cons 4 rfl .nil)))) ?_
        refine J.q rfl rfl rfl rfl (Q.move (.t 0 rfl)) ?_  -- 6:1 slices.go:108 t8 move
        refine J.done ?_
        refine X.nx (⟨i + 1, by omega, take_succ_all hx hgood c1⟩) (.cons 0 (by (first | rfl | (simp; done))) (.cons 2 (by (first | rfl | (simp; done))) (.cons 3 (by (first | rfl | (simp; done))) (.cons 4 (by (first | rfl | (simp; done))) .nil)))) ?_ ?_
        ·
          (exact fun _ h => h)
        ·
          simp; omega
    ·
      simp only [decide_eq_true_eq, decide_eq_false_iff_not, Bool.and_eq_true, Bool.or_eq_true, Bool.and_eq_false_iff, Bool.or_eq_false_iff, Bool.not_eq_true', Bool.not_eq_false', beq_iff_eq, bne_iff_ne, Int.not_lt, Int.not_le, Decidable.not_not, ne_eq] at c0
      refine C.exit ?_
      refine X.thenExit ?_
      refine X.thenExit ?_
      refine X.inHit ?_
      refine X.go ?_
      refine C.keep .nil ?_
      refine C.seq ?_
      refine C.reg ?_
      refine J.q rfl rfl rfl rfl (Q.assign .c) ?_  -- 7:0 slices.go:113 t4 assign
      refine J.end_ ?_
      refine C.ret ?_
      refine X.ret1 rfl 0 rfl (fun w hA => ?_)
      exact PostV.eq hA (by rw [idx_none (by rw [List.take_of_length_le (by omega)] at hgood; exact hgood)])

theorem ContainsFunc_calls (w : World) (a : Option Addr) (c : Nat) (xs : List Int) (hr : (rowO a 1 enI xs).ok w) (hn : xs.length < 9223372036854775807) (g : Nat) (cb : List Value) (eg : En Try.prog g) (pred : Int → Bool) (Φ : List Res) (hΦ : ∀ r ∈ Φ, r.ok w) (hp : ∀ x W, (∀ r ∈ Φ, r.ok W) → Calls Try.prog g ([] ++ [I64 x] ++ cb).toArray W (PostV (.bool (pred x)) W)) : Calls Try.prog 37 [.slice a xs.length c, .func (.func g) [].toArray cb.toArray].toArray w (PostV (.bool (xs.any pred)) w) := by
  refine Calls.enter Try.func37 rfl rfl rfl ?_
  refine C.conseq (A' := St w no [] (rowO a 1 enI xs :: Φ)) (fun _ e => by subst e; exact St.init _ _ (by intro i hi; rcases List.mem_cons.1 hi with rfl | hi; exact hr; exact hΦ i hi)) ?_
  refine C.seq ?_
  refine C.reg ?_
  refine J.q rfl rfl rfl rfl (Q.assign .c) ?_  -- 0:0 slices.go:124 t4 assign
  refine J.end_ ?_
  refine C.keep (.cons 1 rfl (.cons 2 rfl .nil)) ?_
  refine C.seq ?_
  refine C.reg ?_
  refine J.q rfl rfl rfl rfl (Q.move (.t 0 rfl)) ?_  -- 1:0 slices.go:125 t5 move
  refine J.q rfl rfl rfl rfl (Q.move (.t 2 rfl)) ?_  -- 1:1 slices.go:125 t6 move
  refine J.callV rfl rfl rfl rfl (run_static Try.call58 .f (.cons (.t 1 rfl) (.cons (.t 0 rfl) .nil)) rfl) (fun w hA => IndexFunc_calls w a c xs (hA.ok (r := rowO a 1 enI xs) 0 rfl) hn g cb eg pred Φ (fun r h => ⟨(hA.imm r (List.mem_cons_of_mem _ h)).1, (hA.imm r (List.mem_cons_of_mem _ h)).2.1⟩) hp) ?_  -- 1:2 slices.go:125 t7 call
  refine J.q rfl rfl rfl rfl (Q.geq (.t 0 rfl) .c) ?_  -- 1:3 slices.go:125 t8 binOp
  refine J.q rfl rfl rfl rfl (Q.assign (.t 0 rfl)) ?_  -- 1:4 slices.go:125 t4 assign
  refine J.end_ ?_
  refine C.keep (.cons 0 rfl .nil) ?_
  refine C.ret ?_
  refine X.ret1 rfl 0 rfl (fun w hA => ?_)
  exact PostV.eq hA (by rw [idx_any])

theorem notBreaker_calls (w : World) (c : Cable) (a : Option Addr) (cc p q b2 : Nat) (hb : (bx b2 57 [.pointer (some ⟨p, 0, none⟩)]).ok w) (hr : (rowO a 8 Nd.enc c.nodes).ok w) (ht : (bx p 82 (c.tcells a cc q)).ok w) (k : Int) : Calls Try.prog 56 [.int .i64 k, .pointer (some ⟨b2, 0, none⟩)].toArray w (PostV (.bool (!c.breaker k)) w) := by
  refine Calls.enter Try.func56 rfl rfl rfl ?_
  refine C.conseq (A' := St w no [] [bx b2 57 [.pointer (some ⟨p, 0, none⟩)], bx p 82 (c.tcells a cc q), rowO a 8 Nd.enc c.nodes]) (fun _ e => by subst e; exact St.init _ _ (by simp [hb, hr, ht])) ?_
  refine C.seq ?_
  refine C.reg ?_
  refine J.q rfl rfl rfl rfl (Q.assign .c) ?_  -- 0:0 cable.go:274 t3 assign
  refine J.end_ ?_
  refine C.keep (.cons 1 rfl (.cons 2 rfl .nil)) ?_
  refine C.seq ?_
  refine C.reg ?_
  refine J.q rfl rfl rfl rfl (Q.load (.t 1 rfl) Try.isAgg57 (by first | (first | exact ldT 1 0 rfl (by repeat constructor) | exact ldTΦ 1 0 rfl (by repeat constructor) | exact ldT 1 1 rfl (by repeat constructor) | exact ldTΦ 1 1 rfl (by repeat constructor) | exact ldT 1 2 rfl (by repeat constructor) | exact ldTΦ 1 2 rfl (by repeat constructor) | exact ldT 1 3 rfl (by repeat constructor) | exact ldTΦ 1 3 rfl (by repeat constructor) | exact ldT 1 4 rfl (by repeat constructor) | exact ldTΦ 1 4 rfl (by repeat constructor) | exact ldT 1 5 rfl (by repeat constructor) | exact ldTΦ 1 5 rfl (by repeat constructor) | exact ldT 1 6 rfl (by repeat constructor) | exact ldO 0 rfl (by assumption) | exact ldO 1 rfl (by assumption) | exact ldO 2 rfl (by assumption) | exact ldO 3 rfl (by assumption) | exact ldOT 1 0 rfl (by assumption) (by repeat constructor) | exact ldOT 1 1 rfl (by assumption) (by repeat constructor) | exact ldOT 1 2 rfl (by assumption) (by repeat constructor) | exact ldOT 1 3 rfl (by assumption) (by repeat constructor)) | (first | exact ldO1 0 rfl (by assumption) rfl | exact ldO1 1 rfl (by assumption) rfl | exact ldO1 2 rfl (by assumption) rfl | exact ldO1 3 rfl (by assumption) rfl | exact ldO1 4 rfl (by assumption) rfl | exact ldO1 5 rfl (by assumption) rfl | exact ldM1 0 rfl (fun _ => rfl) (by assumption) rfl | exact ldM1 1 rfl (fun _ => rfl) (by assumption) rfl | exact ldM1 2 rfl (fun _ => rfl) (by assumption) rfl | exact ldM1 3 rfl (fun _ => rfl) (by assumption) rfl | exact ldM1 4 rfl (fun _ => rfl) (by assumption) rfl | exact ldM1 5 rfl (fun _ => rfl) (by assumption) rfl))) ?_  -- 1:0 cable.go:274 t4 load
  refine J.q rfl rfl rfl rfl (Q.move (.t 1 rfl)) ?_  -- 1:1 cable.go:274 t5 move
  refine J.callV rfl rfl rfl rfl (run_static Try.call57 .f (.cons (.t 1 rfl) (.cons (.t 0 rfl) .nil)) rfl) (fun w hA => breaker_calls w c a cc p q (hA.ok (r := rowO a 8 Nd.enc c.nodes) 2 rfl) (hA.ok (r := bx p 82 (c.tcells a cc q)) 1 rfl) k) ?_  -- 1:2 cable.go:274 t6 call
  refine J.q rfl rfl rfl rfl (Q.not_ (.t 0 rfl)) ?_  -- 1:3 cable.go:274 t7 unOp
  refine J.q rfl rfl rfl rfl (Q.assign (.t 0 rfl)) ?_  -- 1:4 cable.go:274 t3 assign
  refine J.end_ ?_
  refine C.keep (.cons 0 rfl .nil) ?_
  refine C.ret ?_
  refine X.ret1 rfl 0 rfl (fun w hA => ?_)
  exact PostV.eq hA rfl

theorem badFault_calls (w : World) (c : Cable) (a : Option Addr) (cc p q b2 : Nat) (hb : (bx b2 57 [.pointer (some ⟨p, 0, none⟩)]).ok w) (hr : (rowO a 8 Nd.enc c.nodes).ok w) (ht : (bx p 82 (c.tcells a cc q)).ok w) (k : Int) : Calls Try.prog 38 [.int .i64 k, .pointer (some ⟨b2, 0, none⟩)].toArray w (PostV (.bool (decide (k < 1) || !(decide (0 ≤ k) && decide (k < c.nodes.length)))) w) := by
  refine Calls.enter Try.func38 rfl rfl rfl ?_
  refine C.conseq (A' := St w no [] [bx b2 57 [.pointer (some ⟨p, 0, none⟩)], bx p 82 (c.tcells a cc q), rowO a 8 Nd.enc c.nodes]) (fun _ e => by subst e; exact St.init _ _ (by simp [hb, hr, ht])) ?_
  refine C.seq ?_
  refine C.reg ?_
  refine J.q rfl rfl rfl rfl (Q.assign .c) ?_  -- 0:0 cable.go:321 t3 assign
  refine J.end_ ?_
  refine C.keep (.cons 1 rfl (.cons 2 rfl .nil)) ?_
  refine C.seq ?_
  refine C.reg ?_
  refine J.q rfl rfl rfl rfl (Q.move (.t 0 rfl)) ?_  -- 1:0 cable.go:321 t4 move
  refine J.q rfl rfl rfl rfl (Q.lss (.t 0 rfl) .c) ?_  -- 1:1 cable.go:321 t5 binOp
  refine J.q rfl rfl rfl rfl (Q.move (.t 0 rfl)) ?_  -- 1:2 cable.go:321 t6 move
  refine J.gQ (Gd.one rfl rfl rfl (.t 0 rfl)) rfl rfl rfl (.p 4 rfl .nil) (fun hg => (Q.load (.t 0 rfl) Try.isAgg57 (by first | (first | exact ldT 1 0 rfl (by repeat constructor) | exact ldTΦ 1 0 rfl (by repeat constructor) | exact ldT 1 1 rfl (by repeat constructor) | exact ldTΦ 1 1 rfl (by repeat constructor) | exact ldT 1 2 rfl (by repeat constructor) | exact ldTΦ 1 2 rfl (by repeat constructor) | exact ldT 1 3 rfl (by repeat constructor) | exact ldTΦ 1 3 rfl (by repeat constructor) | exact ldT 1 4 rfl (by repeat constructor) | exact ldTΦ 1 4 rfl (by repeat constructor) | exact ldT 1 5 rfl (by repeat constructor) | exact ldTΦ 1 5 rfl (by repeat constructor) | exact ldT 1 6 rfl (by repeat constructor) | exact ldO 0 rfl (by assumption) | exact ldO 1 rfl (by assumption) | exact ldO 2 rfl (by assumption) | exact ldO 3 rfl (by assumption) | exact ldOT 1 0 rfl (by assumption) (by repeat constructor) | exact ldOT 1 1 rfl (by assumption) (by repeat constructor) | exact ldOT 1 2 rfl (by assumption) (by repeat constructor) | exact ldOT 1 3 rfl (by assumption) (by repeat constructor)) | (first | exact ldO1 0 rfl (by assumption) rfl | exact ldO1 1 rfl (by assumption) rfl | exact ldO1 2 rfl (by assumption) rfl | exact ldO1 3 rfl (by assumption) rfl | exact ldO1 4 rfl (by assumption) rfl | exact ldO1 5 rfl (by assumption) rfl | exact ldM1 0 rfl (fun _ => rfl) (by assumption) rfl | exact ldM1 1 rfl (fun _ => rfl) (by assumption) rfl | exact ldM1 2 rfl (fun _ => rfl) (by assumption) rfl | exact ldM1 3 rfl (fun _ => rfl) (by assumption) rfl | exact ldM1 4 rfl (fun _ => rfl) (by assumption) rfl | exact ldM1 5 rfl (fun _ => rfl) (by assumption) rfl)))) ?_  -- 1:3 cable.go:321 t7 load
  refine J.gQ (Gd.one rfl rfl rfl (.t 1 rfl)) rfl rfl rfl (.p 4 rfl .nil) (fun hg => (Q.move (.t 0 rfl))) ?_  -- 1:4 cable.go:321 t8 move
  refine J.gCall (Gd.one rfl rfl rfl (.t 2 rfl)) rfl rfl rfl (.g 1 rfl (.g 0 rfl .nil)) (run_static Try.call30 .f (.cons (.t 0 rfl) (.cons (.t 1 rfl) .nil)) rfl) (fun hg w hA => has_calls w c a cc p q k (hA.ok (r := bx p 82 (c.tcells a cc q)) 1 rfl)) ?_  -- 1:5 cable.go:321 t9 call
  refine J.gQ (Gd.one rfl rfl rfl (.t 3 rfl)) rfl rfl rfl (.g 0 rfl .nil) (fun hg => (Q.not_ (.t 0 rfl))) ?_  -- 1:6 cable.go:321 t10 unOp
  refine J.q rfl rfl rfl rfl (Q.or_ (.t 4 rfl) (.t 0 rfl)) ?_  -- 1:7 cable.go:321 t11 pick
  refine J.q rfl rfl rfl rfl (Q.assign (.t 0 rfl)) ?_  -- 1:8 cable.go:321 t3 assign
  refine J.end_ ?_
  refine C.keep (.cons 0 rfl .nil) ?_
  refine C.ret ?_
  refine X.ret1 rfl 0 rfl (fun w hA => ?_)
  exact PostV.eq hA rfl

/-- what is told of stuck breakers -/
def _root_.Go.Cab.stuckV (c : Cable) (l : List Int) : Int := if 16 < l.length then 6 else if l.any (fun k => !c.breaker k) then 2 else 0

theorem checkStuck_calls (w : World) (c : Cable) (a : Option Addr) (cc p q : Nat) (hr : (rowO a 8 Nd.enc c.nodes).ok w) (ht : (bx p 82 (c.tcells a cc q)).ok w) (sa : Option Addr) (sc : Nat) (xs : List Int) (hs : (rowO sa 1 enI xs).ok w) : Calls Try.prog 36 [.pointer (some ⟨p, 0, none⟩), .slice sa xs.length sc].toArray w (PostV (.int .i64 (stuckV c xs)) w) := by
  refine Calls.enter Try.func36 rfl rfl rfl ?_
  refine C.conseq (A' := St w no [] [bx p 82 (c.tcells a cc q), rowO a 8 Nd.enc c.nodes, rowO sa 1 enI xs]) (fun _ e => by subst e; exact St.init _ _ (by simp [hr, ht, hs])) ?_
  refine C.seq ?_
  refine C.reg ?_
  refine J.box rfl rfl rfl rfl (.t 0 rfl) rfl ?_; intro b2 hb2  -- 0:0 cable.go:270 t2 box
  refine J.q rfl rfl rfl rfl (Q.assign .c) ?_  -- 0:1 cable.go:270 t4 assign
  refine J.end_ ?_
  refine C.keep (.cons 1 rfl (.cons 3 rfl .nil)) ?_
  refine C.seq ?_
  refine C.seq ?_
  refine C.reg ?_
  refine J.q rfl rfl rfl rfl (Q.move (.t 1 rfl)) ?_  -- 1:0 cable.go:271 t5 move
  refine J.q rfl rfl rfl rfl (Q.len Try.underlying33 (.t 0 rfl)) ?_  -- 1:1 cable.go:271 t6 call
  refine J.q rfl rfl rfl rfl (Q.gtr (.t 0 rfl) .c) ?_  -- 1:2 cable.go:271 t7 binOp
  refine J.end_ ?_
  refine C.keep (.cons 0 rfl (.cons 3 rfl (.cons 4 rfl .nil))) ?_
  refine C.cond (.t 0 rfl) (fun c0 => ?_) (fun c0 => ?_)  -- cond 0
  ·
    refine C.seq ?_
    refine C.reg ?_
    refine J.q rfl rfl rfl rfl (Q.assign .c) ?_  -- 2:0 cable.go:272 t4 assign
    refine J.end_ ?_
    refine C.keep (.cons 0 rfl .nil) ?_
    refine C.ret ?_
    refine X.thenRet ?_
    refine X.ret1 rfl 0 rfl (fun w hA => ?_)
    exact PostV.eq hA (by simp at c0; rw [stuckV, if_pos (by omega)])
  ·
    refine C.skip ?_
    refine X.go ?_
    refine C.keep (.cons 1 rfl (.cons 2 rfl .nil)) ?_
    refine C.seq ?_
    refine C.seq ?_
    refine C.reg ?_
    refine J.q rfl rfl rfl rfl (Q.move (.t 1 rfl)) ?_  -- 3:0 cable.go:274 t8 move
    refine J.q rfl rfl rfl rfl (Q.makeFunc .nil (.cons (.t 1 rfl) .nil)) ?_  -- 3:1 cable.go:274 t9 makeFunc
    refine J.conseq (fun _ h => h.freeze) ?_
    refine J.callV rfl rfl rfl rfl (run_static Try.call37 .f (.cons (.t 1 rfl) (.cons (.t 0 rfl) .nil)) rfl) (fun w hA => ContainsFunc_calls w sa sc xs (hA.ok (r := rowO sa 1 enI xs) 3 rfl) (by simp at c0; omega) 56 [.pointer (some ⟨b2, 0, none⟩)] Try.call56 (fun k => !c.breaker k) [bx b2 57 [.pointer (some ⟨p, 0, none⟩)], bx p 82 (c.tcells a cc q), rowO a 8 Nd.enc c.nodes] (fun r h => (fun hm => ⟨(hA.imm r hm).1, (hA.imm r hm).2.1⟩) (by simp at h ⊢; rcases h with h | h | h <;> simp [h])) (fun x W hW => notBreaker_calls W c a cc p q b2 (hW _ (by simp)) (hW _ (by simp)) (hW _ (by simp)) x)) ?_  -- 3:2 cable.go:274 t10 call
    refine J.end_ ?_
    refine C.keep (.cons 0 rfl .nil) ?_
    refine C.cond (.t 0 rfl) (fun c1 => ?_) (fun c1 => ?_)  -- cond 1
    ·
      refine C.seq ?_
      refine C.reg ?_
      refine J.q rfl rfl rfl rfl (Q.assign .c) ?_  -- 4:0 cable.go:275 t4 assign
      refine J.end_ ?_
      refine C.keep (.cons 0 rfl .nil) ?_
      refine C.ret ?_
      refine X.thenRet ?_
      refine X.ret1 rfl 0 rfl (fun w hA => ?_)
      exact PostV.eq hA (by simp at c0; rw [stuckV, if_neg (by omega), if_pos c1])
    ·
      refine C.skip ?_
      refine X.go ?_
      refine C.keep .nil ?_
      refine C.seq ?_
      refine C.reg ?_
      refine J.q rfl rfl rfl rfl (Q.assign .c) ?_  -- 5:0 cable.go:277 t4 assign
      refine J.end_ ?_
      refine C.ret ?_
      refine X.ret1 rfl 0 rfl (fun w hA => ?_)
      exact PostV.eq hA (by simp at c0; rw [stuckV, if_neg (by omega), if_neg (by simp only [c1]; simp)])

end Go.Proofs
namespace Go.Proofs
open Go Go.J Go.RowKit Go.Cab
set_option maxRecDepth 4096
set_option linter.unusedSimpArgs false
set_option linter.unusedVariables false
def _root_.Go.Cab.bestStep (c : Cable) (stuck : List Int) (best k : Int) : Int := if c.breaker k && !(stuck.any fun x => decide (k = x)) && (decide (best = 0) || decide (c.dly k.toNat < c.dly best.toNat)) then k else best
def _root_.Go.Cab.bestOf (c : Cable) (stuck : List Int) (ps : List Int) : Int := ps.foldl (bestStep c stuck) 0
/-- the node of the breaker that opens -/
def _root_.Go.Cab.opensV (c : Cable) (stuck : List Int) (fault : Int) : Int := bestOf c stuck (path c fault)
theorem best_take {c : Cable} {stuck ps : List Int} {y : Int} {j : Nat} (hy : ps[j]? = some y) : bestOf c stuck (ps.take (j + 1)) = bestStep c stuck (bestOf c stuck (ps.take j)) y := by
  obtain ⟨hl, he⟩ := List.getElem?_eq_some_iff.1 hy
  rw [List.take_succ_eq_append_getElem hl, he, bestOf, List.foldl_append]; rfl
theorem best_bound {c : Cable} (hF : Fit c) {stuck ps : List Int} : 0 ≤ bestOf c stuck ps ∧ bestOf c stuck ps < c.nodes.length := by
  have key : ∀ (ps : List Int) (b : Int), 0 ≤ b ∧ b < c.nodes.length → 0 ≤ ps.foldl (bestStep c stuck) b ∧ ps.foldl (bestStep c stuck) b < c.nodes.length := by
    intro ps
    induction ps with
    | nil => intro b h; exact h
    | cons p ps ih =>
      intro b h
      refine ih _ ?_
      unfold bestStep
      split
      · rename_i hc
        simp only [Cable.breaker, Bool.and_eq_true, decide_eq_true_eq] at hc
        exact ⟨hc.1.1.1.1, hc.1.1.1.2⟩
      · exact h
  exact key ps 0 ⟨by omega, by have := hF.pos; omega⟩

theorem opens_calls (w : World) (c : Cable) (b o cc p q : Nat) (hF : Fit c) (hr : (rowO (some ⟨b, o, none⟩) 8 Nd.enc c.nodes).ok w) (ht : (bx p 82 (c.tcells (some ⟨b, o, none⟩) cc q)).ok w) (sa : Option Addr) (sc : Nat) (xs : List Int) (hs : (rowO sa 1 enI xs).ok w) (hn : xs.length < 9223372036854775807) (fault : Int) (hf : fault < c.nodes.length) : Calls Try.prog 39 [.pointer (some ⟨p, 0, none⟩), .int .i64 fault, .slice sa xs.length sc].toArray w (PostV (.int .i64 (opensV c xs fault)) w) := by
  refine Calls.enterM Try.func39 rfl rfl rfl ?_
  refine C.conseq (A' := St w no [] [needR c (some ⟨b, o, none⟩) cc p q, bx p 82 (c.tcells (some ⟨b, o, none⟩) cc q), rowO (some ⟨b, o, none⟩) 8 Nd.enc c.nodes, rowO sa 1 enI xs]) (fun _ e => by subst e; exact St.init _ _ (by have : (needR c (some ⟨b, o, none⟩) cc p q).ok _ := both.ok_iff.2 ⟨ht, hr⟩; simp [this, hr, ht, hs])) ?_
  refine C.seq ?_
  refine C.reg ?_
  refine J.box rfl rfl rfl rfl (.t 0 rfl) rfl ?_; intro b3 hb3  -- 0:0 cable.go:281 t3 box
  refine J.box rfl rfl rfl rfl (.t 3 rfl) rfl ?_; intro b5 hb5  -- 0:1 cable.go:281 t5 box
  refine J.q rfl rfl rfl rfl (Q.assign .c) ?_  -- 0:2 cable.go:281 t6 assign
  refine J.end_ ?_
  refine C.keep (.cons 1 rfl (.cons 2 rfl (.cons 4 rfl .nil))) ?_
  refine C.seq ?_
  refine C.reg ?_
  refine J.alloc rfl rfl rfl rfl Try.zeroValue3 rfl ?_; intro b7 hb7  -- 1:0 cable.go:282 t7 alloc
  refine J.s rfl rfl rfl (S.storeP (.t 0 rfl) .c Try.sizeOf3 rfl rfl (by (first | exact Nd.enc_one _ | (first | exact Span.enc_one _ | ((intro u hu; simp at hu; first | done | ((repeat' (rcases hu with rfl | hu)) <;> (try subst hu) <;> rfl)))))) (by (repeat (first | exact Upd.here | apply Upd.there))) (by (repeat constructor); done)) ?_  -- 1:1 cable.go:282 tNone store
  refine J.end_ ?_
  refine C.seq ?_
  refine C.seq ?_
  refine C.reg ?_
  refine J.q rfl rfl rfl rfl (Q.load (.t 2 rfl) Try.isAgg57 (by first | (first | exact ldT 1 0 rfl (by repeat constructor) | exact ldTΦ 1 0 rfl (by repeat constructor) | exact ldT 1 1 rfl (by repeat constructor) | exact ldTΦ 1 1 rfl (by repeat constructor) | exact ldT 1 2 rfl (by repeat constructor) | exact ldTΦ 1 2 rfl (by repeat constructor) | exact ldT 1 3 rfl (by repeat constructor) | exact ldTΦ 1 3 rfl (by repeat constructor) | exact ldT 1 4 rfl (by repeat constructor) | exact ldTΦ 1 4 rfl (by repeat constructor) | exact ldT 1 5 rfl (by repeat constructor) | exact ldTΦ 1 5 rfl (by repeat constructor) | exact ldT 1 6 rfl (by repeat constructor) | exact ldO 0 rfl (by assumption) | exact ldO 1 rfl (by assumption) | exact ldO 2 rfl (by assumption) | exact ldO 3 rfl (by assumption) | exact ldOT 1 0 rfl (by assumption) (by repeat constructor) | exact ldOT 1 1 rfl (by assumption) (by repeat constructor) | exact ldOT 1 2 rfl (by assumption) (by repeat constructor) | exact ldOT 1 3 rfl (by assumption) (by repeat constructor)) | (first | exact ldO1 0 rfl (by assumption) rfl | exact ldO1 1 rfl (by assumption) rfl | exact ldO1 2 rfl (by assumption) rfl | exact ldO1 3 rfl (by assumption) rfl | exact ldO1 4 rfl (by assumption) rfl | exact ldO1 5 rfl (by assumption) rfl | exact ldM1 0 rfl (fun _ => rfl) (by assumption) rfl | exact ldM1 1 rfl (fun _ => rfl) (by assumption) rfl | exact ldM1 2 rfl (fun _ => rfl) (by assumption) rfl | exact ldM1 3 rfl (fun _ => rfl) (by assumption) rfl | exact ldM1 4 rfl (fun _ => rfl) (by assumption) rfl | exact ldM1 5 rfl (fun _ => rfl) (by assumption) rfl))) ?_  -- 2:0 cable.go:283 t9 load
  refine J.q rfl rfl rfl rfl (Q.move (.t 4 rfl)) ?_  -- 2:1 cable.go:283 t10 move
  refine J.callNF rfl rfl rfl rfl (run_static Try.call27 .f (.cons (.t 1 rfl) (.cons (.t 0 rfl) .nil)) rfl) (fun w hA => up_calls w p fault) ?_  -- 2:2 cable.go:283 t11 call
  intro x2 _ hnew
  refine J.end_ ?_
  refine C.keep (.cons 0 rfl (.cons 3 rfl (.cons 4 rfl (.cons 5 rfl .nil)))) ?_
  refine C.block ?_
  refine C.range (ps := [12]) (()) (.t 0 rfl) Try.call49 (up_iter c b o cc p q x2.1 x2.2 fault hF hf) (.here) (nd := 0) (Mk := fun j (_ : Unit) => [bx b7 3 [I64 (bestOf c xs ((path c fault).take j))], bx b5 33 [.slice sa xs.length sc], bx b3 57 [.pointer (some ⟨p, 0, none⟩)]]) rfl rfl (fun j v hv => by obtain ⟨y, _, rfl⟩ := pathV_nth hv; rfl) (G := Empty) (fun e => e.elim) (fun e => e.elim) ?_ ?_ ?_
  ·
    intro l rD rc w' j γ v hrc hst hv
    obtain ⟨y, hy, rfl⟩ := pathV_nth hv
    obtain ⟨hy0, hyi⟩ := path_mem hF (List.mem_of_getElem? hy)
    obtain ⟨x, hx⟩ := get_lt (xs := c.nodes) (i := y.toNat) (by omega)
    have hbb := best_bound hF (stuck := xs) (ps := (path c fault).take j)
    obtain ⟨x3, hx3⟩ := get_lt (xs := c.nodes) (i := (bestOf c xs ((path c fault).take j)).toNat) (by omega)
    have hd1 : c.dly y.toNat = x.delay := by rw [Cable.dly, hx]
    have hd2 : c.dly (bestOf c xs ((path c fault).take j)).toNat = x3.delay := by rw [Cable.dly, hx3]
    refine C.rnd ?_
    refine C.reg ?_
    refine J.q rfl rfl rfl rfl (Q.assign (.t 0 rfl)) ?_  -- 3:0 cable.go:283 t8 assign
    refine J.done ?_
    refine X.body hrc ?_
    refine C.block ?_
    refine C.seq ?_
    refine C.drawS ?_
    refine JC.q 0 rfl rfl rfl rfl (Q.load (.t 5 rfl) Try.isAgg57 (by first | (first | exact ldT 1 0 rfl (by repeat constructor) | exact ldTΦ 1 0 rfl (by repeat constructor) | exact ldT 1 1 rfl (by repeat constructor) | exact ldTΦ 1 1 rfl (by repeat constructor) | exact ldT 1 2 rfl (by repeat constructor) | exact ldTΦ 1 2 rfl (by repeat constructor) | exact ldT 1 3 rfl (by repeat constructor) | exact ldTΦ 1 3 rfl (by repeat constructor) | exact ldT 1 4 rfl (by repeat constructor) | exact ldTΦ 1 4 rfl (by repeat constructor) | exact ldT 1 5 rfl (by repeat constructor) | exact ldTΦ 1 5 rfl (by repeat constructor) | exact ldT 1 6 rfl (by repeat constructor) | exact ldO 0 rfl (by assumption) | exact ldO 1 rfl (by assumption) | exact ldO 2 rfl (by assumption) | exact ldO 3 rfl (by assumption) | exact ldOT 1 0 rfl (by assumption) (by repeat constructor) | exact ldOT 1 1 rfl (by assumption) (by repeat constructor) | exact ldOT 1 2 rfl (by assumption) (by repeat constructor) | exact ldOT 1 3 rfl (by assumption) (by repeat constructor)) | (first | exact ldO1 0 rfl (by assumption) rfl | exact ldO1 1 rfl (by assumption) rfl | exact ldO1 2 rfl (by assumption) rfl | exact ldO1 3 rfl (by assumption) rfl | exact ldO1 4 rfl (by assumption) rfl | exact ldO1 5 rfl (by assumption) rfl | exact ldM1 0 rfl (fun _ => rfl) (by assumption) rfl | exact ldM1 1 rfl (fun _ => rfl) (by assumption) rfl | exact ldM1 2 rfl (fun _ => rfl) (by assumption) rfl | exact ldM1 3 rfl (fun _ => rfl) (by assumption) rfl | exact ldM1 4 rfl (fun _ => rfl) (by assumption) rfl | exact ldM1 5 rfl (fun _ => rfl) (by assumption) rfl))) ?_  -- 4:0 cable.go:284 t13 load
    refine JC.q 1 rfl rfl rfl rfl (Q.move (.t 1 rfl)) ?_  -- 4:1 cable.go:284 t14 move
    refine JC.callV 2 rfl rfl rfl rfl (fun D => (run_static Try.call57 .f (.cons (.t 1 rfl) (.cons (.t 0 rfl) .nil)) rfl)) (fun w hA => breaker_calls w c (some ⟨b, o, none⟩) cc p q (hA.ok (r := rowO (some ⟨b, o, none⟩) 8 Nd.enc c.nodes) 2 rfl) (hA.ok (r := bx p 82 (c.tcells (some ⟨b, o, none⟩) cc q)) 1 rfl) y) ?_  -- 4:2 cable.go:284 t15 call
    refine JC.q 3 rfl rfl rfl rfl (Q.move (.t 0 rfl)) ?_  -- 4:3 cable.go:284 t16 move
    refine JC.gQ 4 rfl (Gd.one rfl rfl rfl (.t 0 rfl)) rfl rfl (.p 8 rfl .nil) (fun hg => (Q.load (.t 0 rfl) Try.isAgg33 (by first | (first | exact ldT 1 0 rfl (by repeat constructor) | exact ldTΦ 1 0 rfl (by repeat constructor) | exact ldT 1 1 rfl (by repeat constructor) | exact ldTΦ 1 1 rfl (by repeat constructor) | exact ldT 1 2 rfl (by repeat constructor) | exact ldTΦ 1 2 rfl (by repeat constructor) | exact ldT 1 3 rfl (by repeat constructor) | exact ldTΦ 1 3 rfl (by repeat constructor) | exact ldT 1 4 rfl (by repeat constructor) | exact ldTΦ 1 4 rfl (by repeat constructor) | exact ldT 1 5 rfl (by repeat constructor) | exact ldTΦ 1 5 rfl (by repeat constructor) | exact ldT 1 6 rfl (by repeat constructor) | exact ldO 0 rfl (by assumption) | exact ldO 1 rfl (by assumption) | exact ldO 2 rfl (by assumption) | exact ldO 3 rfl (by assumption) | exact ldOT 1 0 rfl (by assumption) (by repeat constructor) | exact ldOT 1 1 rfl (by assumption) (by repeat constructor) | exact ldOT 1 2 rfl (by assumption) (by repeat constructor) | exact ldOT 1 3 rfl (by assumption) (by repeat constructor)) | (first | exact ldO1 0 rfl (by assumption) rfl | exact ldO1 1 rfl (by assumption) rfl | exact ldO1 2 rfl (by assumption) rfl | exact ldO1 3 rfl (by assumption) rfl | exact ldO1 4 rfl (by assumption) rfl | exact ldO1 5 rfl (by assumption) rfl | exact ldM1 0 rfl (fun _ => rfl) (by assumption) rfl | exact ldM1 1 rfl (fun _ => rfl) (by assumption) rfl | exact ldM1 2 rfl (fun _ => rfl) (by assumption) rfl | exact ldM1 3 rfl (fun _ => rfl) (by assumption) rfl | exact ldM1 4 rfl (fun _ => rfl) (by assumption) rfl | exact ldM1 5 rfl (fun _ => rfl) (by assumption) rfl)))) ?_  -- 4:4 cable.go:284 t17 load
    refine JC.gQ 5 rfl (Gd.one rfl rfl rfl (.t 1 rfl)) rfl rfl (.p 5 rfl .nil) (fun hg => (Q.move (.t 0 rfl))) ?_  -- 4:5 cable.go:284 t18 move
    refine JC.gCall 6 rfl (Gd.one rfl rfl rfl (.t 2 rfl)) rfl rfl (.g 1 rfl (.g 0 rfl .nil)) (fun D => (run_static Try.call59 .f (.cons (.t 0 rfl) (.cons (.t 1 rfl) .nil)) rfl)) (fun hg w hA => Contains_calls w sa sc xs y (hA.ok (r := rowO sa 1 enI xs) 3 rfl) hn) ?_  -- 4:6 cable.go:284 t19 call
    refine JC.gQ 7 rfl (Gd.one rfl rfl rfl (.t 3 rfl)) rfl rfl (.g 0 rfl .nil) (fun hg => (Q.not_ (.t 0 rfl))) ?_  -- 4:7 cable.go:284 t20 unOp
    refine JC.q 8 rfl rfl rfl rfl (Q.and_ (.t 4 rfl) (.t 0 rfl)) ?_  -- 4:8 cable.go:284 t21 pick
    refine JC.q 9 rfl rfl rfl rfl (Q.move (.t 0 rfl)) ?_  -- 4:9 cable.go:284 t22 move
    refine JC.gQ 10 rfl (Gd.one rfl rfl rfl (.t 0 rfl)) rfl rfl (.p 13 rfl .nil) (fun hg => (Q.load (.t 0 rfl) Try.isAgg3 (by first | (first | exact ldT 1 0 rfl (by repeat constructor) | exact ldTΦ 1 0 rfl (by repeat constructor) | exact ldT 1 1 rfl (by repeat constructor) | exact ldTΦ 1 1 rfl (by repeat constructor) | exact ldT 1 2 rfl (by repeat constructor) | exact ldTΦ 1 2 rfl (by repeat constructor) | exact ldT 1 3 rfl (by repeat constructor) | exact ldTΦ 1 3 rfl (by repeat constructor) | exact ldT 1 4 rfl (by repeat constructor) | exact ldTΦ 1 4 rfl (by repeat constructor) | exact ldT 1 5 rfl (by repeat constructor) | exact ldTΦ 1 5 rfl (by repeat constructor) | exact ldT 1 6 rfl (by repeat constructor) | exact ldO 0 rfl (by assumption) | exact ldO 1 rfl (by assumption) | exact ldO 2 rfl (by assumption) | exact ldO 3 rfl (by assumption) | exact ldOT 1 0 rfl (by assumption) (by repeat constructor) | exact ldOT 1 1 rfl (by assumption) (by repeat constructor) | exact ldOT 1 2 rfl (by assumption) (by repeat constructor) | exact ldOT 1 3 rfl (by assumption) (by repeat constructor)) | (first | exact ldO1 0 rfl (by assumption) rfl | exact ldO1 1 rfl (by assumption) rfl | exact ldO1 2 rfl (by assumption) rfl | exact ldO1 3 rfl (by assumption) rfl | exact ldO1 4 rfl (by assumption) rfl | exact ldO1 5 rfl (by assumption) rfl | exact ldM1 0 rfl (fun _ => rfl) (by assumption) rfl | exact ldM1 1 rfl (fun _ => rfl) (by assumption) rfl | exact ldM1 2 rfl (fun _ => rfl) (by assumption) rfl | exact ldM1 3 rfl (fun _ => rfl) (by assumption) rfl | exact ldM1 4 rfl (fun _ => rfl) (by assumption) rfl | exact ldM1 5 rfl (fun _ => rfl) (by assumption) rfl)))) ?_  -- 4:10 cable.go:284 t23 load
    refine JC.gQ 11 rfl (Gd.one rfl rfl rfl (.t 1 rfl)) rfl rfl (.g 0 rfl .nil) (fun hg => (Q.eql (.t 0 rfl) .c)) ?_  -- 4:11 cable.go:284 t24 binOp
    refine JC.gQ 12 rfl (Gd.one rfl rfl rfl (.t 2 rfl)) rfl rfl (.g 0 rfl .nil) (fun hg => (Q.move (.t 0 rfl))) ?_  -- 4:12 cable.go:284 t25 move
    refine JC.gQ 13 rfl (Gd.two rfl rfl rfl (.t 0 rfl)) rfl rfl (.p 18 rfl .nil) (fun hg => (Q.load (.t 0 rfl) Try.isAgg57 (by first | (first | exact ldT 1 0 rfl (by repeat constructor) | exact ldTΦ 1 0 rfl (by repeat constructor) | exact ldT 1 1 rfl (by repeat constructor) | exact ldTΦ 1 1 rfl (by repeat constructor) | exact ldT 1 2 rfl (by repeat constructor) | exact ldTΦ 1 2 rfl (by repeat constructor) | exact ldT 1 3 rfl (by repeat constructor) | exact ldTΦ 1 3 rfl (by repeat constructor) | exact ldT 1 4 rfl (by repeat constructor) | exact ldTΦ 1 4 rfl (by repeat constructor) | exact ldT 1 5 rfl (by repeat constructor) | exact ldTΦ 1 5 rfl (by repeat constructor) | exact ldT 1 6 rfl (by repeat constructor) | exact ldO 0 rfl (by assumption) | exact ldO 1 rfl (by assumption) | exact ldO 2 rfl (by assumption) | exact ldO 3 rfl (by assumption) | exact ldOT 1 0 rfl (by assumption) (by repeat constructor) | exact ldOT 1 1 rfl (by assumption) (by repeat constructor) | exact ldOT 1 2 rfl (by assumption) (by repeat constructor) | exact ldOT 1 3 rfl (by assumption) (by repeat constructor)) | (first | exact ldO1 0 rfl (by assumption) rfl | exact ldO1 1 rfl (by assumption) rfl | exact ldO1 2 rfl (by assumption) rfl | exact ldO1 3 rfl (by assumption) rfl | exact ldO1 4 rfl (by assumption) rfl | exact ldO1 5 rfl (by assumption) rfl | exact ldM1 0 rfl (fun _ => rfl) (by assumption) rfl | exact ldM1 1 rfl (fun _ => rfl) (by assumption) rfl | exact ldM1 2 rfl (fun _ => rfl) (by assumption) rfl | exact ldM1 3 rfl (fun _ => rfl) (by assumption) rfl | exact ldM1 4 rfl (fun _ => rfl) (by assumption) rfl | exact ldM1 5 rfl (fun _ => rfl) (by assumption) rfl)))) ?_  -- 4:13 cable.go:284 t26 load
    refine JC.gQ 14 rfl (Gd.two rfl rfl rfl (.t 1 rfl)) rfl rfl (.g 0 rfl .nil) (fun hg => (Q.nilCheck (.t 0 rfl))) ?_  -- 4:14 cable.go:284 t27 nilCheck
    refine JC.gQ 15 rfl (Gd.two rfl rfl rfl (.t 2 rfl)) rfl rfl (.g 0 rfl .nil) (fun hg => (Q.fa 0 Try.underlying82 rfl Try.sizeOf26 rfl rfl (.t 0 rfl))) ?_  -- 4:15 cable.go:284 t28 fieldAddr
    refine JC.gQ 16 rfl (Gd.two rfl rfl rfl (.t 3 rfl)) rfl rfl (.g 0 rfl .nil) (fun hg => (Q.fa 2 Try.underlying26 rfl Try.sizeOf24 rfl rfl (.t 0 rfl))) ?_  -- 4:16 cable.go:284 t29 fieldAddr
    refine JC.gQ 17 rfl (Gd.two rfl rfl rfl (.t 4 rfl)) rfl rfl (.g 0 rfl .nil) (fun hg => (Q.load (.t 0 rfl) Try.isAgg24 (by first | (first | exact ldT 1 0 rfl (by repeat constructor) | exact ldTΦ 1 0 rfl (by repeat constructor) | exact ldT 1 1 rfl (by repeat constructor) | exact ldTΦ 1 1 rfl (by repeat constructor) | exact ldT 1 2 rfl (by repeat constructor) | exact ldTΦ 1 2 rfl (by repeat constructor) | exact ldT 1 3 rfl (by repeat constructor) | exact ldTΦ 1 3 rfl (by repeat constructor) | exact ldT 1 4 rfl (by repeat constructor) | exact ldTΦ 1 4 rfl (by repeat constructor) | exact ldT 1 5 rfl (by repeat constructor) | exact ldTΦ 1 5 rfl (by repeat constructor) | exact ldT 1 6 rfl (by repeat constructor) | exact ldO 0 rfl (by assumption) | exact ldO 1 rfl (by assumption) | exact ldO 2 rfl (by assumption) | exact ldO 3 rfl (by assumption) | exact ldOT 1 0 rfl (by assumption) (by repeat constructor) | exact ldOT 1 1 rfl (by assumption) (by repeat constructor) | exact ldOT 1 2 rfl (by assumption) (by repeat constructor) | exact ldOT 1 3 rfl (by assumption) (by repeat constructor)) | (first | exact ldO1 0 rfl (by assumption) rfl | exact ldO1 1 rfl (by assumption) rfl | exact ldO1 2 rfl (by assumption) rfl | exact ldO1 3 rfl (by assumption) rfl | exact ldO1 4 rfl (by assumption) rfl | exact ldO1 5 rfl (by assumption) rfl | exact ldM1 0 rfl (fun _ => rfl) (by assumption) rfl | exact ldM1 1 rfl (fun _ => rfl) (by assumption) rfl | exact ldM1 2 rfl (fun _ => rfl) (by assumption) rfl | exact ldM1 3 rfl (fun _ => rfl) (by assumption) rfl | exact ldM1 4 rfl (fun _ => rfl) (by assumption) rfl | exact ldM1 5 rfl (fun _ => rfl) (by assumption) rfl)))) ?_  -- 4:17 cable.go:284 t30 load
    refine JC.gQ 18 rfl (Gd.two rfl rfl rfl (.t 5 rfl)) rfl rfl (.p 18 rfl .nil) (fun hg => (Q.move (.t 0 rfl))) ?_  -- 4:18 cable.go:284 t31 move
    refine JC.gQ 19 rfl (Gd.two rfl rfl rfl (.t 6 rfl)) rfl rfl (.g 1 rfl (.g 0 rfl .nil)) (fun hg => (Q.indexAddr Try.underlying24 Try.sizeOf40 (.t 0 rfl) (.t 1 rfl) (by omega))) ?_  -- 4:19 cable.go:284 t32 indexAddr
    refine JC.gQ 20 rfl (Gd.two rfl rfl rfl (.t 7 rfl)) rfl rfl (.g 0 rfl .nil) (fun hg => (Q.fa 7 Try.underlying40 rfl Try.sizeOf2 rfl rfl (.t 0 rfl))) ?_  -- 4:20 cable.go:284 t33 fieldAddr
    refine JC.gQ 21 rfl (Gd.two rfl rfl rfl (.t 8 rfl)) rfl rfl (.g 0 rfl .nil) (fun hg => (Q.load (.t 0 rfl) Try.isAgg2 (by exact ldOT 1 2 rfl hx (by (repeat constructor); done)))) ?_  -- 4:21 cable.go:284 t34 load
    refine JC.gQ 22 rfl (Gd.two rfl rfl rfl (.t 9 rfl)) rfl rfl (.p 27 rfl .nil) (fun hg => (Q.load (.t 0 rfl) Try.isAgg57 (by first | (first | exact ldT 1 0 rfl (by repeat constructor) | exact ldTΦ 1 0 rfl (by repeat constructor) | exact ldT 1 1 rfl (by repeat constructor) | exact ldTΦ 1 1 rfl (by repeat constructor) | exact ldT 1 2 rfl (by repeat constructor) | exact ldTΦ 1 2 rfl (by repeat constructor) | exact ldT 1 3 rfl (by repeat constructor) | exact ldTΦ 1 3 rfl (by repeat constructor) | exact ldT 1 4 rfl (by repeat constructor) | exact ldTΦ 1 4 rfl (by repeat constructor) | exact ldT 1 5 rfl (by repeat constructor) | exact ldTΦ 1 5 rfl (by repeat constructor) | exact ldT 1 6 rfl (by repeat constructor) | exact ldO 0 rfl (by assumption) | exact ldO 1 rfl (by assumption) | exact ldO 2 rfl (by assumption) | exact ldO 3 rfl (by assumption) | exact ldOT 1 0 rfl (by assumption) (by repeat constructor) | exact ldOT 1 1 rfl (by assumption) (by repeat constructor) | exact ldOT 1 2 rfl (by assumption) (by repeat constructor) | exact ldOT 1 3 rfl (by assumption) (by repeat constructor)) | (first | exact ldO1 0 rfl (by assumption) rfl | exact ldO1 1 rfl (by assumption) rfl | exact ldO1 2 rfl (by assumption) rfl | exact ldO1 3 rfl (by assumption) rfl | exact ldO1 4 rfl (by assumption) rfl | exact ldO1 5 rfl (by assumption) rfl | exact ldM1 0 rfl (fun _ => rfl) (by assumption) rfl | exact ldM1 1 rfl (fun _ => rfl) (by assumption) rfl | exact ldM1 2 rfl (fun _ => rfl) (by assumption) rfl | exact ldM1 3 rfl (fun _ => rfl) (by assumption) rfl | exact ldM1 4 rfl (fun _ => rfl) (by assumption) rfl | exact ldM1 5 rfl (fun _ => rfl) (by assumption) rfl)))) ?_  -- 4:22 cable.go:284 t35 load
    refine JC.gQ 23 rfl (Gd.two rfl rfl rfl (.t 10 rfl)) rfl rfl (.g 0 rfl .nil) (fun hg => (Q.nilCheck (.t 0 rfl))) ?_  -- 4:23 cable.go:284 t36 nilCheck
    refine JC.gQ 24 rfl (Gd.two rfl rfl rfl (.t 11 rfl)) rfl rfl (.g 0 rfl .nil) (fun hg => (Q.fa 0 Try.underlying82 rfl Try.sizeOf26 rfl rfl (.t 0 rfl))) ?_  -- 4:24 cable.go:284 t37 fieldAddr
    refine JC.gQ 25 rfl (Gd.two rfl rfl rfl (.t 12 rfl)) rfl rfl (.g 0 rfl .nil) (fun hg => (Q.fa 2 Try.underlying26 rfl Try.sizeOf24 rfl rfl (.t 0 rfl))) ?_  -- 4:25 cable.go:284 t38 fieldAddr
    refine JC.gQ 26 rfl (Gd.two rfl rfl rfl (.t 13 rfl)) rfl rfl (.g 0 rfl .nil) (fun hg => (Q.load (.t 0 rfl) Try.isAgg24 (by first | (first | exact ldT 1 0 rfl (by repeat constructor) | exact ldTΦ 1 0 rfl (by repeat constructor) | exact ldT 1 1 rfl (by repeat constructor) | exact ldTΦ 1 1 rfl (by repeat constructor) | exact ldT 1 2 rfl (by repeat constructor) | exact ldTΦ 1 2 rfl (by repeat constructor) | exact ldT 1 3 rfl (by repeat constructor) | exact ldTΦ 1 3 rfl (by repeat constructor) | exact ldT 1 4 rfl (by repeat constructor) | exact ldTΦ 1 4 rfl (by repeat constructor) | exact ldT 1 5 rfl (by repeat constructor) | exact ldTΦ 1 5 rfl (by repeat constructor) | exact ldT 1 6 rfl (by repeat constructor) | exact ldO 0 rfl (by assumption) | exact ldO 1 rfl (by assumption) | exact ldO 2 rfl (by assumption) | exact ldO 3 rfl (by assumption) | exact ldOT 1 0 rfl (by assumption) (by repeat constructor) | exact ldOT 1 1 rfl (by assumption) (by repeat constructor) | exact ldOT 1 2 rfl (by assumption) (by repeat constructor) | exact ldOT 1 3 rfl (by assumption) (by repeat constructor)) | (first | exact ldO1 0 rfl (by assumption) rfl | exact ldO1 1 rfl (by assumption) rfl | exact ldO1 2 rfl (by assumption) rfl | exact ldO1 3 rfl (by assumption) rfl | exact ldO1 4 rfl (by assumption) rfl | exact ldO1 5 rfl (by assumption) rfl | exact ldM1 0 rfl (fun _ => rfl) (by assumption) rfl | exact ldM1 1 rfl (fun _ => rfl) (by assumption) rfl | exact ldM1 2 rfl (fun _ => rfl) (by assumption) rfl | exact ldM1 3 rfl (fun _ => rfl) (by assumption) rfl | exact ldM1 4 rfl (fun _ => rfl) (by assumption) rfl | exact ldM1 5 rfl (fun _ => rfl) (by assumption) rfl)))) ?_  -- 4:26 cable.go:284 t39 load
    refine JC.gQ 27 rfl (Gd.two rfl rfl rfl (.t 14 rfl)) rfl rfl (.p 30 rfl .nil) (fun hg => (Q.load (.t 0 rfl) Try.isAgg3 (by first | (first | exact ldT 1 0 rfl (by repeat constructor) | exact ldTΦ 1 0 rfl (by repeat constructor) | exact ldT 1 1 rfl (by repeat constructor) | exact ldTΦ 1 1 rfl (by repeat constructor) | exact ldT 1 2 rfl (by repeat constructor) | exact ldTΦ 1 2 rfl (by repeat constructor) | exact ldT 1 3 rfl (by repeat constructor) | exact ldTΦ 1 3 rfl (by repeat constructor) | exact ldT 1 4 rfl (by repeat constructor) | exact ldTΦ 1 4 rfl (by repeat constructor) | exact ldT 1 5 rfl (by repeat constructor) | exact ldTΦ 1 5 rfl (by repeat constructor) | exact ldT 1 6 rfl (by repeat constructor) | exact ldO 0 rfl (by assumption) | exact ldO 1 rfl (by assumption) | exact ldO 2 rfl (by assumption) | exact ldO 3 rfl (by assumption) | exact ldOT 1 0 rfl (by assumption) (by repeat constructor) | exact ldOT 1 1 rfl (by assumption) (by repeat constructor) | exact ldOT 1 2 rfl (by assumption) (by repeat constructor) | exact ldOT 1 3 rfl (by assumption) (by repeat constructor)) | (first | exact ldO1 0 rfl (by assumption) rfl | exact ldO1 1 rfl (by assumption) rfl | exact ldO1 2 rfl (by assumption) rfl | exact ldO1 3 rfl (by assumption) rfl | exact ldO1 4 rfl (by assumption) rfl | exact ldO1 5 rfl (by assumption) rfl | exact ldM1 0 rfl (fun _ => rfl) (by assumption) rfl | exact ldM1 1 rfl (fun _ => rfl) (by assumption) rfl | exact ldM1 2 rfl (fun _ => rfl) (by assumption) rfl | exact ldM1 3 rfl (fun _ => rfl) (by assumption) rfl | exact ldM1 4 rfl (fun _ => rfl) (by assumption) rfl | exact ldM1 5 rfl (fun _ => rfl) (by assumption) rfl)))) ?_  -- 4:27 cable.go:284 t40 load
    refine JC.gQ 28 rfl (Gd.two rfl rfl rfl (.t 15 rfl)) rfl rfl (.g 1 rfl (.g 0 rfl .nil)) (fun hg => (Q.indexAddr Try.underlying24 Try.sizeOf40 (.t 0 rfl) (.t 1 rfl) (by omega))) ?_  -- 4:28 cable.go:284 t41 indexAddr
    refine JC.gQ 29 rfl (Gd.two rfl rfl rfl (.t 16 rfl)) rfl rfl (.g 0 rfl .nil) (fun hg => (Q.fa 7 Try.underlying40 rfl Try.sizeOf2 rfl rfl (.t 0 rfl))) ?_  -- 4:29 cable.go:284 t42 fieldAddr
    refine JC.gQ 30 rfl (Gd.two rfl rfl rfl (.t 17 rfl)) rfl rfl (.g 0 rfl .nil) (fun hg => (Q.load (.t 0 rfl) Try.isAgg2 (by exact ldOT 1 2 rfl hx3 (by (repeat constructor); done)))) ?_  -- 4:30 cable.go:284 t43 load
    refine JC.gQ 31 rfl (Gd.two rfl rfl rfl (.t 18 rfl)) rfl rfl (.g 9 rfl (.g 0 rfl .nil)) (fun hg => (Q.lss (.t 0 rfl) (.t 1 rfl))) ?_  -- 4:31 cable.go:284 t44 binOp
    refine JC.gQ 32 rfl (Gd.one rfl rfl rfl (.t 22 rfl)) rfl rfl (.g 19 rfl (.n 0 rfl .nil)) (fun hg => (Q.or_ (.t 0 rfl) (.t 1 rfl))) ?_  -- 4:32 cable.go:284 t45 pick
    refine JC.q 33 rfl rfl rfl rfl (Q.and_ (.t 23 rfl) (.t 0 rfl)) ?_  -- 4:33 cable.go:284 t46 pick
    refine JC.tail [0, 0, 3, 7, 15, 15, 63, 127, 255, 511, 1023, 2047, 4095, 8191, 16383, 32767, 65535, 131071, 8191, 524287, 1048575, 2097151, 8191, 4202495, 12591103, 29368319, 62922751, 8191, 264249343, 532684799, 1069555711, 2147483647, 4294967295, 8589934591] 0 mixed (by kernel_rfl) (by kernel_rfl) (by (first | (exact fun _ h => h) | (exact fun _ h => h.dropM) | (exact fun _ h => h.dropM.dropM) | (exact fun _ h => h.sub (by (repeat (first | exact List.Sublist.refl _ | exact List.nil_sublist _ | apply List.Sublist.cons_cons | apply List.Sublist.cons)); done)) | (exact fun _ h => h.subΦ (fun i hi => List.mem_cons_of_mem _ hi)))) ?_
    refine JT.end_ ?_
    refine X.go ?_
    refine C.keep (.cons 0 rfl (.cons 34 rfl (.cons 36 rfl (.cons 37 rfl (.cons 38 rfl (.cons 39 rfl .nil)))))) ?_
    refine C.cond (.t 0 rfl) (fun c0 => ?_) (fun c0 => ?_)  -- cond 0
    ·
      refine C.reg ?_
      refine J.q rfl rfl rfl rfl (Q.move (.t 1 rfl)) ?_  -- 5:0 cable.go:285 t47 move
      refine J.s rfl rfl rfl (S.storeP (.t 4 rfl) (.t 0 rfl) Try.sizeOf3 rfl rfl (by (first | exact Nd.enc_one _ | (first | exact Span.enc_one _ | ((intro u hu; simp at hu; first | done | ((repeat' (rcases hu with rfl | hu)) <;> (try subst hu) <;> rfl)))))) (by (repeat (first | exact Upd.here | apply Upd.there))) (by (repeat constructor); done)) ?_  -- 5:1 cable.go:285 tNone store
      refine J.done ?_
      refine X.inNormal ?_
      refine (X.next_ (()) hrc hst).conv ?_
      exact fun _ h => by rw [best_take hy, bestStep, hd1, hd2, if_pos c0]; exact h
    ·
      refine C.skip ?_
      refine X.inNormal ?_
      refine (X.next_ (()) hrc hst).conv ?_
      exact fun _ h => by rw [best_take hy, bestStep, hd1, hd2, if_neg (by rw [c0]; simp)]; exact h
  ·
    intro rD γ hrD
    refine X.inNormal ?_
    refine X.go ?_
    refine C.keep (.cons 1 rfl .nil) ?_
    refine C.seq ?_
    refine C.reg ?_
    refine J.q rfl rfl rfl rfl (Q.load (.t 0 rfl) Try.isAgg3 (by first | (first | exact ldT 1 0 rfl (by repeat constructor) | exact ldTΦ 1 0 rfl (by repeat constructor) | exact ldT 1 1 rfl (by repeat constructor) | exact ldTΦ 1 1 rfl (by repeat constructor) | exact ldT 1 2 rfl (by repeat constructor) | exact ldTΦ 1 2 rfl (by repeat constructor) | exact ldT 1 3 rfl (by repeat constructor) | exact ldTΦ 1 3 rfl (by repeat constructor) | exact ldT 1 4 rfl (by repeat constructor) | exact ldTΦ 1 4 rfl (by repeat constructor) | exact ldT 1 5 rfl (by repeat constructor) | exact ldTΦ 1 5 rfl (by repeat constructor) | exact ldT 1 6 rfl (by repeat constructor) | exact ldO 0 rfl (by assumption) | exact ldO 1 rfl (by assumption) | exact ldO 2 rfl (by assumption) | exact ldO 3 rfl (by assumption) | exact ldOT 1 0 rfl (by assumption) (by repeat constructor) | exact ldOT 1 1 rfl (by assumption) (by repeat constructor) | exact ldOT 1 2 rfl (by assumption) (by repeat constructor) | exact ldOT 1 3 rfl (by assumption) (by repeat constructor)) | (first | exact ldO1 0 rfl (by assumption) rfl | exact ldO1 1 rfl (by assumption) rfl | exact ldO1 2 rfl (by assumption) rfl | exact ldO1 3 rfl (by assumption) rfl | exact ldO1 4 rfl (by assumption) rfl | exact ldO1 5 rfl (by assumption) rfl | exact ldM1 0 rfl (fun _ => rfl) (by assumption) rfl | exact ldM1 1 rfl (fun _ => rfl) (by assumption) rfl | exact ldM1 2 rfl (fun _ => rfl) (by assumption) rfl | exact ldM1 3 rfl (fun _ => rfl) (by assumption) rfl | exact ldM1 4 rfl (fun _ => rfl) (by assumption) rfl | exact ldM1 5 rfl (fun _ => rfl) (by assumption) rfl))) ?_  -- 6:0 cable.go:288 t48 load
    refine J.q rfl rfl rfl rfl (Q.assign (.t 0 rfl)) ?_  -- 6:1 cable.go:288 t6 assign
    refine J.end_ ?_
    refine C.keep (.cons 0 rfl .nil) ?_
    refine C.ret ?_
    refine X.leave ?_
    refine XL.mark .here ?_
    refine XL.ret1 rfl 0 rfl (fun w hA => ?_)
    exact PostV.eq hA (by rw [pathV_len, List.take_length]; rfl)
  ·
    intro rD e; exact e.elim

end Go.Proofs
