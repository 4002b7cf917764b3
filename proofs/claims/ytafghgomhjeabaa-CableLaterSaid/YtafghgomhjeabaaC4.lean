/- cable: Path cable: maps.Keys slices.Collect The cable in plain Lean: what is lost. slices.Sorted cable: Lost cable: Path -/
import Derived.Test.YtafghgomhjeabaaC3
import Derived.Test.YtafghgomhjeabaaProg
import Derived.Test.YtafghgomhjeabaaJ3
set_option linter.unusedVariables false
set_option linter.unusedSimpArgs false
namespace Go.Proofs
open Go Go.J Go.RowKit Go.Cab
set_option maxRecDepth 4096
set_option linter.unusedSimpArgs false
set_option linter.unusedVariables false
theorem AppendSeq_calls (c : Cable) (b o cc p q y3 y2 : Nat) (k : Int) (hF : Fit c) (hk : k < c.nodes.length) (w : World) (hm : (sep (bx y3 3 [I64 k]) (bx y2 57 [.pointer (some ⟨p, 0, none⟩)])).ok w) (hne : (needR c (some ⟨b, o, none⟩) cc p q).ok w) (hap : Apart (sep (bx y3 3 [I64 k]) (bx y2 57 [.pointer (some ⟨p, 0, none⟩)])) (needR c (some ⟨b, o, none⟩) cc p q)) : Calls Try.prog 51 [.slice none 0 0, .func (.func 49) [].toArray [.pointer (some ⟨y3, 0, none⟩), .pointer (some ⟨y2, 0, none⟩)].toArray].toArray w (PostU (fun s : Sl => s.xs = path c k ∧ s.n = s.xs.length) (fun s => s.val) (sep (bx y3 3 [I64 k]) (bx y2 57 [.pointer (some ⟨p, 0, none⟩)])) (fun s => s.grow) w) := by
  have hn60 := hF.le
  refine Calls.enterM Try.func51 rfl rfl rfl ?_
  refine C.conseq (A' := St w (sep (bx y3 3 [I64 k]) (bx y2 57 [.pointer (some ⟨p, 0, none⟩)])).U [(sep (bx y3 3 [I64 k]) (bx y2 57 [.pointer (some ⟨p, 0, none⟩)]))] [needR c (some ⟨b, o, none⟩) cc p q]) (fun _ e => by subst e; exact St.init1 _ _ _ hm (by intro i hi; simp only [List.mem_singleton] at hi; subst hi; exact ⟨hne, hap⟩)) ?_
  refine C.seq ?_
  refine C.reg ?_
  refine J.box rfl rfl rfl rfl (.t 0 rfl) rfl ?_; intro b2 hb2  -- 0:0 iter.go:50 t2 box
  refine J.q rfl rfl rfl rfl (Q.assign .c) ?_  -- 0:1 iter.go:50 t4 assign
  refine J.end_ ?_
  refine C.keep (.cons 1 rfl (.cons 3 rfl .nil)) ?_
  refine C.seq ?_
  refine C.seq ?_
  refine C.reg ?_
  refine J.conseq (A' := St w (sep (bx y3 3 [I64 k]) (bx y2 57 [.pointer (some ⟨p, 0, none⟩)])).U ((sep (bx y3 3 [I64 k]) (bx y2 57 [.pointer (some ⟨p, 0, none⟩)])) :: [pureR ((⟨none, 0, 0, []⟩ : Sl).n = (⟨none, 0, 0, []⟩ : Sl).xs.length ∧ (⟨none, 0, 0, []⟩ : Sl).xs = (path c k).take 0), bx b2 33 [(⟨none, 0, 0, []⟩ : Sl).val], (⟨none, 0, 0, []⟩ : Sl).grow]) [needR c (some ⟨b, o, none⟩) cc p q]) (fun _ h => ((St.newG (e := 3) (sz := 1) h).addPure (q := (⟨none, 0, 0, []⟩ : Sl).n = (⟨none, 0, 0, []⟩ : Sl).xs.length ∧ (⟨none, 0, 0, []⟩ : Sl).xs = (path c k).take 0) ⟨rfl, rfl⟩).to (by (repeat (first | exact PermL.same | refine PermL.cons (by (repeat (first | exact Pick.here | apply Pick.there)); done) ?_ | exact PermL.drop | refine PermL.skip ?_)); done)) ?_
  refine J.q rfl rfl rfl rfl (Q.move (.t 1 rfl)) ?_  -- 1:0 iter.go:51 t6 move
  refine J.end_ ?_
  refine C.keep (.cons 0 rfl (.cons 1 rfl .nil)) ?_
  refine C.block ?_
  refine C.range (ps := [7]) ((⟨none, 0, 0, []⟩ : Sl)) (.t 0 rfl) Try.call49 (up_iter c b o cc p q y3 y2 k hF hk) (.here) (nd := 0) (Mk := fun j (s : Sl) => [pureR (s.n = s.xs.length ∧ s.xs = (path c k).take j), bx b2 33 [s.val], s.grow]) rfl rfl (fun j v hv => by obtain ⟨y, _, rfl⟩ := pathV_nth hv; rfl) (G := Empty) (fun e => e.elim) (fun e => e.elim) ?_ ?_ ?_
  ·
    intro l rD rc w' j s v hrc hst hv
    obtain ⟨y, hy, rfl⟩ := pathV_nth hv
    have hjl : (path c k).length ≤ 60 := path_length hF (by omega)
    refine C.rnd ?_
    refine C.reg ?_
    refine J.q rfl rfl rfl rfl (Q.assign (.t 0 rfl)) ?_  -- 2:0 iter.go:51 t5 assign
    refine J.done ?_
    refine X.body hrc ?_
    refine C.block ?_
    refine C.reg ?_
    refine J.know (fun w hA => (hA.get 2 rfl : (pureR (s.n = s.xs.length ∧ s.xs = (path c k).take j)).φ w)) (fun hsk => ?_)
    have hsn : s.n = s.xs.length := hsk.1
    have hsl : s.xs.length ≤ 60 := by rw [hsk.2, List.length_take]; omega
    refine J.q rfl rfl rfl rfl (Q.load (.t 3 rfl) Try.isAgg33 (by first | (first | exact ldT 1 0 rfl (by repeat constructor) | exact ldTΦ 1 0 rfl (by repeat constructor) | exact ldT 1 1 rfl (by repeat constructor) | exact ldTΦ 1 1 rfl (by repeat constructor) | exact ldT 1 2 rfl (by repeat constructor) | exact ldTΦ 1 2 rfl (by repeat constructor) | exact ldT 1 3 rfl (by repeat constructor) | exact ldTΦ 1 3 rfl (by repeat constructor) | exact ldT 1 4 rfl (by repeat constructor) | exact ldTΦ 1 4 rfl (by repeat constructor) | exact ldT 1 5 rfl (by repeat constructor) | exact ldTΦ 1 5 rfl (by repeat constructor) | exact ldT 1 6 rfl (by repeat constructor) | exact ldO 0 rfl (by assumption) | exact ldO 1 rfl (by assumption) | exact ldO 2 rfl (by assumption) | exact ldO 3 rfl (by assumption) | exact ldOT 1 0 rfl (by assumption) (by repeat constructor) | exact ldOT 1 1 rfl (by assumption) (by repeat constructor) | exact ldOT 1 2 rfl (by assumption) (by repeat constructor) | exact ldOT 1 3 rfl (by assumption) (by repeat constructor)) | (first | exact ldO1 0 rfl (by assumption) rfl | exact ldO1 1 rfl (by assumption) rfl | exact ldO1 2 rfl (by assumption) rfl | exact ldO1 3 rfl (by assumption) rfl | exact ldO1 4 rfl (by assumption) rfl | exact ldO1 5 rfl (by assumption) rfl | exact ldM1 0 rfl (fun _ => rfl) (by assumption) rfl | exact ldM1 1 rfl (fun _ => rfl) (by assumption) rfl | exact ldM1 2 rfl (fun _ => rfl) (by assumption) rfl | exact ldM1 3 rfl (fun _ => rfl) (by assumption) rfl | exact ldM1 4 rfl (fun _ => rfl) (by assumption) rfl | exact ldM1 5 rfl (fun _ => rfl) (by assumption) rfl))) ?_  -- 3:0 iter.go:52 t8 load
    refine J.q rfl rfl rfl rfl (Q.move (.t 1 rfl)) ?_  -- 3:1 iter.go:52 t9 move
    refine J.lit rfl rfl rfl rfl rfl rfl Try.underlying33 inf3 (.cons (.t 0 rfl) .nil) (Cs.eq (.cons rfl .nil)) (by simp) (by simp) (by simp) (by simp) ?_; intro b10 hb10  -- 3:2 iter.go:52 t10 buildSlice
    refine J.append (l := s.xs.map I64) (news := [I64 y]) (Mn := fun a' c' => bx b10 3 [I64 y] :: own l (.loop (rc .busy none)) :: own rD (.deferred (some [])) :: pureR (s.n = s.xs.length ∧ s.xs = (path c k).take j) :: bx b2 33 [s.val] :: [(⟨a', s.n + 1, c', s.xs ++ [y]⟩ : Sl).grow]) rfl rfl rfl rfl Try.underlying33 inf3 (by simp) (.t 2 rfl) (.t 0 rfl) (fun w hA => ⟨_, _, rfl, ldT 1 0 rfl (by (repeat constructor); done) w hA⟩) rfl (by simp [Value.oneCell']) (by omega) (by omega) (fun a' c' => .there (.there (.there (.there (.there s.app))))) ?_; intro a' c'
    refine J.s rfl rfl rfl (S.storeP (l' := [(⟨a', s.n + 1, c', s.xs ++ [y]⟩ : Sl).val]) (.t 7 rfl) (.t 0 rfl) Try.sizeOf33 rfl rfl (by (first | exact Nd.enc_one _ | (first | exact Span.enc_one _ | ((intro u hu; simp at hu; first | done | ((repeat' (rcases hu with rfl | hu)) <;> (try subst hu) <;> rfl)))))) (by (repeat (first | exact Upd.here | apply Upd.there))) (by (repeat constructor); done)) ?_
    refine J.done ?_
    refine X.inNormal ?_
    refine (X.next_ ((⟨a', s.n + 1, c', s.xs ++ [y]⟩ : Sl)) hrc hst).conv ?_
    exact fun _ h => (h.addPure (q := (⟨a', s.n + 1, c', s.xs ++ [y]⟩ : Sl).n = (⟨a', s.n + 1, c', s.xs ++ [y]⟩ : Sl).xs.length ∧ (⟨a', s.n + 1, c', s.xs ++ [y]⟩ : Sl).xs = (path c k).take (j + 1)) ⟨by simp [hsn], take_snoc hy hsk.2⟩).to (by (repeat (first | exact PermL.same | refine PermL.cons (by (repeat (first | exact Pick.here | apply Pick.there)); done) ?_ | exact PermL.drop | refine PermL.skip ?_)); done)
  ·
    intro rD s hrD
    refine X.inNormal ?_
    refine X.go ?_
    refine C.keep (.cons 1 rfl .nil) ?_
    refine C.seq ?_
    refine C.reg ?_
    refine J.q rfl rfl rfl rfl (Q.load (.t 0 rfl) Try.isAgg33 (by first | (first | exact ldT 1 0 rfl (by repeat constructor) | exact ldTΦ 1 0 rfl (by repeat constructor) | exact ldT 1 1 rfl (by repeat constructor) | exact ldTΦ 1 1 rfl (by repeat constructor) | exact ldT 1 2 rfl (by repeat constructor) | exact ldTΦ 1 2 rfl (by repeat constructor) | exact ldT 1 3 rfl (by repeat constructor) | exact ldTΦ 1 3 rfl (by repeat constructor) | exact ldT 1 4 rfl (by repeat constructor) | exact ldTΦ 1 4 rfl (by repeat constructor) | exact ldT 1 5 rfl (by repeat constructor) | exact ldTΦ 1 5 rfl (by repeat constructor) | exact ldT 1 6 rfl (by repeat constructor) | exact ldO 0 rfl (by assumption) | exact ldO 1 rfl (by assumption) | exact ldO 2 rfl (by assumption) | exact ldO 3 rfl (by assumption) | exact ldOT 1 0 rfl (by assumption) (by repeat constructor) | exact ldOT 1 1 rfl (by assumption) (by repeat constructor) | exact ldOT 1 2 rfl (by assumption) (by repeat constructor) | exact ldOT 1 3 rfl (by assumption) (by repeat constructor)) | (first | exact ldO1 0 rfl (by assumption) rfl | exact ldO1 1 rfl (by assumption) rfl | exact ldO1 2 rfl (by assumption) rfl | exact ldO1 3 rfl (by assumption) rfl | exact ldO1 4 rfl (by assumption) rfl | exact ldO1 5 rfl (by assumption) rfl | exact ldM1 0 rfl (fun _ => rfl) (by assumption) rfl | exact ldM1 1 rfl (fun _ => rfl) (by assumption) rfl | exact ldM1 2 rfl (fun _ => rfl) (by assumption) rfl | exact ldM1 3 rfl (fun _ => rfl) (by assumption) rfl | exact ldM1 4 rfl (fun _ => rfl) (by assumption) rfl | exact ldM1 5 rfl (fun _ => rfl) (by assumption) rfl))) ?_  -- 4:0 iter.go:54 t12 load
    refine J.q rfl rfl rfl rfl (Q.assign (.t 0 rfl)) ?_  -- 4:1 iter.go:54 t4 assign
    refine J.end_ ?_
    refine C.keep (.cons 0 rfl .nil) ?_
    refine C.ret ?_
    refine X.leave ?_
    refine XL.mark .here ?_
    refine XL.ret1 rfl 0 rfl (fun w hA => ?_)
    have hsk : s.n = s.xs.length ∧ s.xs = (path c k).take (pathV c k).length := hA.get 1 rfl
    exact PostU.of (X := Sl) s ⟨by rw [hsk.2, pathV_len, List.take_length], hsk.1⟩ (hA.to (by (repeat (first | exact PermL.same | refine PermL.cons (by (repeat (first | exact Pick.here | apply Pick.there)); done) ?_ | exact PermL.drop | refine PermL.skip ?_)); done))
  ·
    intro rD e; exact e.elim

end Go.Proofs
namespace Go.Proofs
open Go Go.J Go.RowKit Go.Cab
set_option maxRecDepth 4096
set_option linter.unusedSimpArgs false
set_option linter.unusedVariables false
/-- the entries that have not come yet -/
def _root_.Go.Cab.lft (arr : Array MapEntry) (i : List MapEntry) : List MapEntry := arr.toList.filter fun e => !((i.map (·.born)).toArray.contains e.born)
theorem lft_of {arr : Array MapEntry} {i : List MapEntry} : (leftOf arr (i.map (·.born)).toArray).toList = lft arr i := by simp [leftOf, lft]
theorem lft_nil {arr : Array MapEntry} : lft arr [] = arr.toList := by simp [lft]
theorem filter_born {e : MapEntry} : ∀ {l : List MapEntry}, l.Pairwise (fun x y => x.born < y.born) → e ∈ l → l.Perm (e :: l.filter (fun x => x.born != e.born))
  | [], _, h => by simp at h
  | x :: l, hp, h => by
    obtain ⟨h1, h2⟩ := List.pairwise_cons.1 hp
    rcases List.mem_cons.1 h with rfl | h
    · have : l.filter (fun x => x.born != e.born) = l := List.filter_eq_self.2 (fun y hy => by have := h1 y hy; simp; omega)
      simp [this]
    · have hne : (x.born != e.born) = true := by have := h1 e h; simp; omega
      simp only [List.filter_cons, hne, if_true]
      exact ((filter_born h2 h).cons x).trans (List.Perm.swap _ _ _)
theorem lft_step {arr : Array MapEntry} {clock : Nat} (hE : Ents arr clock) {i : List MapEntry} {e : MapEntry} (he : e ∈ lft arr i) (hp : (i ++ lft arr i).Perm arr.toList) : ((i ++ [e]) ++ lft arr (i ++ [e])).Perm arr.toList := by
  have h1 : lft arr (i ++ [e]) = (lft arr i).filter (fun x => x.born != e.born) := by
    unfold lft
    rw [List.filter_filter]
    apply List.filter_congr
    intro x _
    by_cases hx : x.born = e.born <;> simp [hx, Bool.and_comm]
  have h2 := filter_born (e := e) (List.Pairwise.filter _ hE.up) he
  rw [h1]
  refine List.Perm.trans ?_ hp
  rw [List.append_assoc]
  exact (List.Perm.append_left i h2.symm)

theorem keys_iter (b1 bm clock : Nat) (arr : Array MapEntry) (hE : Ents arr clock) : IterN Try.prog 60 [.pointer (some ⟨b1, 0, none⟩)] (fun e : MapEntry => [e.key]) (fun i e => e ∈ lft arr i ∧ (i ++ lft arr i).Perm arr.toList) (fun i => i.Perm arr.toList) (sep (bx b1 76 [.map (some bm)]) (own bm (.map arr clock))) emp := by
  intro l Γ I g₀ G Xg w hneed hY hI0 hmine hap hlt hmlt
  refine Calls.enter Try.func60 rfl rfl rfl ?_
  refine C.conseq (A' := St w (fun b => (I [] g₀).U b ∨ (sep (bx b1 76 [.map (some bm)]) (own bm (.map arr clock))).U b) [I [] g₀, bx b1 76 [.map (some bm)], own bm (.map arr clock)] []) (fun _ e => by subst e; exact iter_start hI0 hmine hap hlt hmlt) ?_
  refine C.seq ?_
  refine C.reg ?_
  refine J.q rfl rfl rfl rfl (Q.load (.t 1 rfl) Try.isAgg76 (by first | (first | exact ldT 1 0 rfl (by repeat constructor) | exact ldTΦ 1 0 rfl (by repeat constructor) | exact ldT 1 1 rfl (by repeat constructor) | exact ldTΦ 1 1 rfl (by repeat constructor) | exact ldT 1 2 rfl (by repeat constructor) | exact ldTΦ 1 2 rfl (by repeat constructor) | exact ldT 1 3 rfl (by repeat constructor) | exact ldTΦ 1 3 rfl (by repeat constructor) | exact ldT 1 4 rfl (by repeat constructor) | exact ldTΦ 1 4 rfl (by repeat constructor) | exact ldT 1 5 rfl (by repeat constructor) | exact ldTΦ 1 5 rfl (by repeat constructor) | exact ldT 1 6 rfl (by repeat constructor) | exact ldO 0 rfl (by assumption) | exact ldO 1 rfl (by assumption) | exact ldO 2 rfl (by assumption) | exact ldO 3 rfl (by assumption) | exact ldOT 1 0 rfl (by assumption) (by repeat constructor) | exact ldOT 1 1 rfl (by assumption) (by repeat constructor) | exact ldOT 1 2 rfl (by assumption) (by repeat constructor) | exact ldOT 1 3 rfl (by assumption) (by repeat constructor)) | (first | exact ldO1 0 rfl (by assumption) rfl | exact ldO1 1 rfl (by assumption) rfl | exact ldO1 2 rfl (by assumption) rfl | exact ldO1 3 rfl (by assumption) rfl | exact ldO1 4 rfl (by assumption) rfl | exact ldO1 5 rfl (by assumption) rfl | exact ldM1 0 rfl (fun _ => rfl) (by assumption) rfl | exact ldM1 1 rfl (fun _ => rfl) (by assumption) rfl | exact ldM1 2 rfl (fun _ => rfl) (by assumption) rfl | exact ldM1 3 rfl (fun _ => rfl) (by assumption) rfl | exact ldM1 4 rfl (fun _ => rfl) (by assumption) rfl | exact ldM1 5 rfl (fun _ => rfl) (by assumption) rfl))) ?_  -- 0:0 iter.go:27 t4 load
  refine J.rangeM rfl rfl rfl rfl Try.underlying76 (.t 0 rfl) (fun w hA => hA.get 2 rfl) ?_; intro q
  refine J.end_ ?_
  refine C.keep (.cons 0 rfl (.cons 2 rfl .nil)) ?_
  refine C.block ?_
  refine C.loop_0 (G := { g : List MapEntry × Γ // (g.1 ++ lft arr g.1).Perm arr.toList }) (fun g => St w (fun b => (I [] g₀).U b ∨ (sep (bx b1 76 [.map (some bm)]) (own bm (.map arr clock))).U b) [itR bm q clock (g.1.1.map (·.born)).toArray, I g.1.1 g.1.2, bx b1 76 [.map (some bm)], own bm (.map arr clock)] []) (fun g => arr.toList.length - g.1.1.length) (⟨([], g₀), by rw [lft_nil]; exact List.Perm.refl _⟩)  ?_ ?_
  ·
    (exact fun _ h => h)
  ·
    rintro ⟨⟨i, γ⟩, hp⟩
    dsimp only
    dsimp only at hp
    refine C.seq ?_
    refine C.reg ?_
    refine J.nextM (M' := fun e => [itR bm q clock ((i.map (·.born)).toArray.push e.born), I i γ, bx b1 76 [.map (some bm)], own bm (.map arr clock)]) rfl rfl rfl rfl (.t 0 rfl) hE (fun w hA => hA.get 3 rfl) (fun _ => .here) ?_ ?_
    ·
      intro h0
      refine J.q rfl rfl rfl rfl (Q.extract (.t 0 rfl) rfl) ?_  -- 1:1 iter.go:27 t7 extract
      refine J.end_ ?_
      refine C.keep (.cons 0 rfl (.cons 2 rfl (.cons 3 rfl .nil))) ?_
      refine C.seq ?_
      refine C.cond (.t 0 rfl) (fun c0 => ?_) (fun c0 => ?_)  -- cond 0
      ·
        exact absurd c0 (by simp)
      ·
        refine C.exit ?_
        refine X.thenExit ?_
        refine X.thenExit ?_
        refine X.inHit ?_
        refine X.end0 rfl (fun w hA => ?_)
        have hnil : lft arr i = [] := by rw [← lft_of]; exact List.eq_nil_of_length_eq_zero (by simpa using h0)
        rw [hnil, List.append_nil] at hp
        exact ⟨⟨_, rfl⟩, hA.eff, .inl ⟨i, γ, hp, hA.get 1 rfl⟩⟩
    ·
      intro e he
      rw [lft_of] at he
      have hmem : e ∈ arr.toList := (List.mem_filter.1 he).1
      refine J.q rfl rfl rfl rfl (Q.extract (.t 0 rfl) rfl) ?_  -- 1:1 iter.go:27 t7 extract
      refine J.end_ ?_
      refine C.keep (.cons 0 rfl (.cons 2 rfl (.cons 3 rfl .nil))) ?_
      refine C.seq ?_
      refine C.cond (.t 0 rfl) (fun c1 => ?_) (fun c1 => ?_)  -- cond 1
      ·
        refine C.skip ?_
        refine X.go ?_
        refine C.keep (.cons 1 rfl (.cons 2 rfl .nil)) ?_
        refine C.block ?_
        refine C.seq ?_
        refine C.reg ?_
        refine J.q rfl rfl rfl rfl (Q.entryM (.t 0 rfl) hE hmem (fun w hA => hA.get 3 rfl) (fun w hA => hA.get 0 rfl)) ?_
        refine J.q rfl rfl rfl rfl (Q.extract (.t 0 rfl) rfl) ?_  -- 2:1 iter.go:27 t9 extract
        refine J.q rfl rfl rfl rfl (Q.assign (.t 0 rfl)) ?_  -- 2:2 iter.go:27 t3 assign
        refine J.end_ ?_
        refine C.keep (.cons 0 rfl (.cons 3 rfl (.cons 4 rfl .nil))) ?_
        refine C.seq ?_
        refine C.reg ?_
        refine J.q rfl rfl rfl rfl (Q.move (.t 2 rfl)) ?_  -- 3:0 iter.go:28 t10 move
        refine J.q rfl rfl rfl rfl (Q.move (.t 1 rfl)) ?_  -- 3:1 iter.go:28 t11 move
        refine J.pickM (.there .here) ?_
        refine J.yield (I := I i γ) (I' := I (i ++ [e])) (X := Xg) rfl rfl rfl rfl (.t 1 rfl) (.cons (.t 0 rfl) .nil) (fun w hI hlt => hY i γ w e ⟨he, hp⟩ hI hlt) ?_ ?_
        ·
          intro γ'
          refine J.q rfl rfl rfl rfl (Q.not_ (.t 0 rfl)) ?_  -- 3:3 iter.go:28 t13 unOp
          refine J.end_ ?_
          refine C.keep (.cons 0 rfl (.cons 5 rfl (.cons 6 rfl .nil))) ?_
          refine C.cond (.t 0 rfl) (fun c2 => ?_) (fun c2 => ?_)  -- cond 2
          ·
            exact absurd c2 (by simp)
          ·
            refine C.skip ?_
            refine X.inNormal ?_
            refine X.nx (⟨(i ++ [e], γ'), lft_step hE he hp⟩) (.cons 1 (by (first | rfl | (simp; done))) (.cons 2 (by (first | rfl | (simp; done))) .nil)) ?_ ?_
            ·
              exact fun _ h => (by have := h.permM (.swap _ _ _); simpa using this)
            ·
              have hl := hp.length_eq
              have hpos : 0 < (lft arr i).length := List.length_pos_of_mem he
              simp only [List.length_append] at hl
              simp only [List.length_append, List.length_cons, List.length_nil]; omega
        ·
          intro g
          refine J.q rfl rfl rfl rfl (Q.not_ (.t 0 rfl)) ?_  -- 3:3 iter.go:28 t13 unOp
          refine J.end_ ?_
          refine C.keep (.cons 0 rfl (.cons 5 rfl (.cons 6 rfl .nil))) ?_
          refine C.cond (.t 0 rfl) (fun c3 => ?_) (fun c3 => ?_)  -- cond 3
          ·
            refine C.ret ?_
            refine X.inRet ?_
            refine X.thenRet ?_
            refine X.inRet ?_
            refine X.ret0 rfl (fun w hA => ?_)
            exact ⟨⟨_, rfl⟩, hA.eff, .inr ⟨g, hA.get 0 rfl⟩⟩
          ·
            exact absurd c3 (by simp)
      ·
        exact absurd c1 (by simp)

end Go.Proofs
namespace Go.Proofs
open Go Go.J Go.RowKit Go.Cab
set_option maxRecDepth 4096
set_option linter.unusedSimpArgs false
set_option linter.unusedVariables false
theorem AppendSeqN_calls {V : Type} (val : V → Int) (f : Nat) (cap : List Value) (he : En Try.prog f) (Nx : List V → V → Prop) (Fin : List V → Prop) (mine need : Res) (it : IterN Try.prog f cap (fun v => [I64 (val v)]) Nx Fin mine need) (hb : ∀ i v, Nx i v → i.length ≤ 1000000) (w : World) (hm : mine.ok w) (hne : need.ok w) (hap : Apart mine need) : Calls Try.prog 51 [.slice none 0 0, .func (.func f) [].toArray cap.toArray].toArray w (PostU (fun s : Sl => (∃ i, Fin i ∧ s.xs = i.map val) ∧ s.n = s.xs.length) (fun s => s.val) mine (fun s => s.grow) w) := by
  refine Calls.enterM Try.func51 rfl rfl rfl ?_
  refine C.conseq (A' := St w mine.U [mine] [need]) (fun _ e => by subst e; exact St.init1 _ _ _ hm (by intro i hi; simp only [List.mem_singleton] at hi; subst hi; exact ⟨hne, hap⟩)) ?_
  refine C.seq ?_
  refine C.reg ?_
  refine J.box rfl rfl rfl rfl (.t 0 rfl) rfl ?_; intro b2 hb2  -- 0:0 iter.go:50 t2 box
  refine J.q rfl rfl rfl rfl (Q.assign .c) ?_  -- 0:1 iter.go:50 t4 assign
  refine J.end_ ?_
  refine C.keep (.cons 1 rfl (.cons 3 rfl .nil)) ?_
  refine C.seq ?_
  refine C.seq ?_
  refine C.reg ?_
  refine J.conseq (A' := St w mine.U (mine :: [pureR ((⟨none, 0, 0, []⟩ : Sl).n = (⟨none, 0, 0, []⟩ : Sl).xs.length ∧ (⟨none, 0, 0, []⟩ : Sl).xs = ([] : List V).map val), bx b2 33 [(⟨none, 0, 0, []⟩ : Sl).val], (⟨none, 0, 0, []⟩ : Sl).grow]) [need]) (fun _ h => ((St.newG (e := 3) (sz := 1) h).addPure (q := (⟨none, 0, 0, []⟩ : Sl).n = (⟨none, 0, 0, []⟩ : Sl).xs.length ∧ (⟨none, 0, 0, []⟩ : Sl).xs = ([] : List V).map val) ⟨rfl, rfl⟩).to (by (repeat (first | exact PermL.same | refine PermL.cons (by (repeat (first | exact Pick.here | apply Pick.there)); done) ?_ | exact PermL.drop | refine PermL.skip ?_)); done)) ?_
  refine J.q rfl rfl rfl rfl (Q.move (.t 1 rfl)) ?_  -- 1:0 iter.go:51 t6 move
  refine J.end_ ?_
  refine C.keep (.cons 0 rfl (.cons 1 rfl .nil)) ?_
  refine C.block ?_
  refine C.rangeN (ps := [7]) ((⟨none, 0, 0, []⟩ : Sl)) (.t 0 rfl) he (it) (.here) (nd := 0) (Mk := fun i (s : Sl) => [pureR (s.n = s.xs.length ∧ s.xs = i.map val), bx b2 33 [s.val], s.grow]) rfl rfl (fun _ => rfl) (G := Empty) (fun e => e.elim) (fun e => e.elim) ?_ ?_ ?_
  ·
    intro l rD rc w' i s v hrc hst hv
    refine C.rnd ?_
    refine C.reg ?_
    refine J.q rfl rfl rfl rfl (Q.assign (.t 0 rfl)) ?_  -- 2:0 iter.go:51 t5 assign
    refine J.done ?_
    refine X.body hrc ?_
    refine C.block ?_
    refine C.reg ?_
    refine J.know (fun w hA => (hA.get 2 rfl : (pureR (s.n = s.xs.length ∧ s.xs = i.map val)).φ w)) (fun hsk => ?_)
    have hsn : s.n = s.xs.length := hsk.1
    have hsl : s.xs.length ≤ 1000000 := by rw [hsk.2, List.length_map]; exact hb _ _ hv
    refine J.q rfl rfl rfl rfl (Q.load (.t 3 rfl) Try.isAgg33 (by first | (first | exact ldT 1 0 rfl (by repeat constructor) | exact ldTΦ 1 0 rfl (by repeat constructor) | exact ldT 1 1 rfl (by repeat constructor) | exact ldTΦ 1 1 rfl (by repeat constructor) | exact ldT 1 2 rfl (by repeat constructor) | exact ldTΦ 1 2 rfl (by repeat constructor) | exact ldT 1 3 rfl (by repeat constructor) | exact ldTΦ 1 3 rfl (by repeat constructor) | exact ldT 1 4 rfl (by repeat constructor) | exact ldTΦ 1 4 rfl (by repeat constructor) | exact ldT 1 5 rfl (by repeat constructor) | exact ldTΦ 1 5 rfl (by repeat constructor) | exact ldT 1 6 rfl (by repeat constructor) | exact ldO 0 rfl (by assumption) | exact ldO 1 rfl (by assumption) | exact ldO 2 rfl (by assumption) | exact ldO 3 rfl (by assumption) | exact ldOT 1 0 rfl (by assumption) (by repeat constructor) | exact ldOT 1 1 rfl (by assumption) (by repeat constructor) | exact ldOT 1 2 rfl (by assumption) (by repeat constructor) | exact ldOT 1 3 rfl (by assumption) (by repeat constructor)) | (first | exact ldO1 0 rfl (by assumption) rfl | exact ldO1 1 rfl (by assumption) rfl | exact ldO1 2 rfl (by assumption) rfl | exact ldO1 3 rfl (by assumption) rfl | exact ldO1 4 rfl (by assumption) rfl | exact ldO1 5 rfl (by assumption) rfl | exact ldM1 0 rfl (fun _ => rfl) (by assumption) rfl | exact ldM1 1 rfl (fun _ => rfl) (by assumption) rfl | exact ldM1 2 rfl (fun _ => rfl) (by assumption) rfl | exact ldM1 3 rfl (fun _ => rfl) (by assumption) rfl | exact ldM1 4 rfl (fun _ => rfl) (by assumption) rfl | exact ldM1 5 rfl (fun _ => rfl) (by assumption) rfl))) ?_  -- 3:0 iter.go:52 t8 load
    refine J.q rfl rfl rfl rfl (Q.move (.t 1 rfl)) ?_  -- 3:1 iter.go:52 t9 move
    refine J.lit rfl rfl rfl rfl rfl rfl Try.underlying33 inf3 (.cons (.t 0 rfl) .nil) (Cs.eq (.cons rfl .nil)) (by simp) (by simp) (by simp) (by simp) ?_; intro b10 hb10  -- 3:2 iter.go:52 t10 buildSlice
    refine J.append (l := s.xs.map I64) (news := [I64 (val v)]) (Mn := fun a' c' => bx b10 3 [I64 (val v)] :: own l (.loop (rc .busy none)) :: own rD (.deferred (some [])) :: pureR (s.n = s.xs.length ∧ s.xs = i.map val) :: bx b2 33 [s.val] :: [(⟨a', s.n + 1, c', s.xs ++ [val v]⟩ : Sl).grow]) rfl rfl rfl rfl Try.underlying33 inf3 (by simp) (.t 2 rfl) (.t 0 rfl) (fun w hA => ⟨_, _, rfl, ldT 1 0 rfl (by (repeat constructor); done) w hA⟩) rfl (by simp [Value.oneCell']) (by omega) (by omega) (fun a' c' => .there (.there (.there (.there (.there s.app))))) ?_; intro a' c'
    refine J.s rfl rfl rfl (S.storeP (l' := [(⟨a', s.n + 1, c', s.xs ++ [val v]⟩ : Sl).val]) (.t 7 rfl) (.t 0 rfl) Try.sizeOf33 rfl rfl (by (first | exact Nd.enc_one _ | (first | exact Span.enc_one _ | ((intro u hu; simp at hu; first | done | ((repeat' (rcases hu with rfl | hu)) <;> (try subst hu) <;> rfl)))))) (by (repeat (first | exact Upd.here | apply Upd.there))) (by (repeat constructor); done)) ?_
    refine J.done ?_
    refine X.inNormal ?_
    refine (X.next_ ((⟨a', s.n + 1, c', s.xs ++ [val v]⟩ : Sl)) hrc hst).conv ?_
    exact fun _ h => (h.addPure (q := (⟨a', s.n + 1, c', s.xs ++ [val v]⟩ : Sl).n = (⟨a', s.n + 1, c', s.xs ++ [val v]⟩ : Sl).xs.length ∧ (⟨a', s.n + 1, c', s.xs ++ [val v]⟩ : Sl).xs = (i ++ [v]).map val) ⟨by simp [hsn], by simp [hsk.2]⟩).to (by (repeat (first | exact PermL.same | refine PermL.cons (by (repeat (first | exact Pick.here | apply Pick.there)); done) ?_ | exact PermL.drop | refine PermL.skip ?_)); done)
  ·
    intro rD iN s hrD hfin
    refine X.inNormal ?_
    refine X.go ?_
    refine C.keep (.cons 1 rfl .nil) ?_
    refine C.seq ?_
    refine C.reg ?_
    refine J.q rfl rfl rfl rfl (Q.load (.t 0 rfl) Try.isAgg33 (by first | (first | exact ldT 1 0 rfl (by repeat constructor) | exact ldTΦ 1 0 rfl (by repeat constructor) | exact ldT 1 1 rfl (by repeat constructor) | exact ldTΦ 1 1 rfl (by repeat constructor) | exact ldT 1 2 rfl (by repeat constructor) | exact ldTΦ 1 2 rfl (by repeat constructor) | exact ldT 1 3 rfl (by repeat constructor) | exact ldTΦ 1 3 rfl (by repeat constructor) | exact ldT 1 4 rfl (by repeat constructor) | exact ldTΦ 1 4 rfl (by repeat constructor) | exact ldT 1 5 rfl (by repeat constructor) | exact ldTΦ 1 5 rfl (by repeat constructor) | exact ldT 1 6 rfl (by repeat constructor) | exact ldO 0 rfl (by assumption) | exact ldO 1 rfl (by assumption) | exact ldO 2 rfl (by assumption) | exact ldO 3 rfl (by assumption) | exact ldOT 1 0 rfl (by assumption) (by repeat constructor) | exact ldOT 1 1 rfl (by assumption) (by repeat constructor) | exact ldOT 1 2 rfl (by assumption) (by repeat constructor) | exact ldOT 1 3 rfl (by assumption) (by repeat constructor)) | (first | exact ldO1 0 rfl (by assumption) rfl | exact ldO1 1 rfl (by assumption) rfl | exact ldO1 2 rfl (by assumption) rfl | exact ldO1 3 rfl (by assumption) rfl | exact ldO1 4 rfl (by assumption) rfl | exact ldO1 5 rfl (by assumption) rfl | exact ldM1 0 rfl (fun _ => rfl) (by assumption) rfl | exact ldM1 1 rfl (fun _ => rfl) (by assumption) rfl | exact ldM1 2 rfl (fun _ => rfl) (by assumption) rfl | exact ldM1 3 rfl (fun _ => rfl) (by assumption) rfl | exact ldM1 4 rfl (fun _ => rfl) (by assumption) rfl | exact ldM1 5 rfl (fun _ => rfl) (by assumption) rfl))) ?_  -- 4:0 iter.go:54 t12 load
    refine J.q rfl rfl rfl rfl (Q.assign (.t 0 rfl)) ?_  -- 4:1 iter.go:54 t4 assign
    refine J.end_ ?_
    refine C.keep (.cons 0 rfl .nil) ?_
    refine C.ret ?_
    refine X.leave ?_
    refine XL.mark .here ?_
    refine XL.ret1 rfl 0 rfl (fun w hA => ?_)
    have hsk : s.n = s.xs.length ∧ s.xs = iN.map val := hA.get 1 rfl
    exact PostU.of (X := Sl) s ⟨⟨iN, hfin, hsk.2⟩, hsk.1⟩ (hA.to (by (repeat (first | exact PermL.same | refine PermL.cons (by (repeat (first | exact Pick.here | apply Pick.there)); done) ?_ | exact PermL.drop | refine PermL.skip ?_)); done))
  ·
    intro rD e; exact e.elim

theorem CollectN_calls {V : Type} (val : V → Int) (f : Nat) (cap : List Value) (he : En Try.prog f) (Nx : List V → V → Prop) (Fin : List V → Prop) (mine need : Res) (it : IterN Try.prog f cap (fun v => [I64 (val v)]) Nx Fin mine need) (hb : ∀ i v, Nx i v → i.length ≤ 1000000) (w : World) (hm : mine.ok w) (hne : need.ok w) (hap : Apart mine need) : Calls Try.prog 31 [.func (.func f) [].toArray cap.toArray].toArray w (PostU (fun s : Sl => (∃ i, Fin i ∧ s.xs = i.map val) ∧ s.n = s.xs.length) (fun s => s.val) mine (fun s => s.grow) w) := by
  refine Calls.enter Try.func31 rfl rfl rfl ?_
  refine C.conseq (A' := St w mine.U [mine] [need]) (fun _ e => by subst e; exact St.init1 _ _ _ hm (by intro i hi; simp only [List.mem_singleton] at hi; subst hi; exact ⟨hne, hap⟩)) ?_
  refine C.seq ?_
  refine C.reg ?_
  refine J.q rfl rfl rfl rfl (Q.assign .c) ?_  -- 0:0 iter.go:59 t2 assign
  refine J.end_ ?_
  refine C.keep (.cons 1 rfl .nil) ?_
  refine C.seq ?_
  refine C.reg ?_
  refine J.q rfl rfl rfl rfl (Q.move (.t 0 rfl)) ?_  -- 1:0 iter.go:60 t3 move
  refine J.callU rfl rfl rfl rfl (run_static Try.call51 .f (.cons .c (.cons (.t 0 rfl) .nil)) rfl) (fun _ => .here) (fun w hA => AppendSeqN_calls val f cap he Nx Fin mine need it hb w (hA.okM (r := mine) 0 rfl) (hA.ok (r := need) 0 rfl) hap) ?_  -- 1:1 iter.go:60 t4 call
  intro s hs
  refine J.q rfl rfl rfl rfl (Q.assign (.t 0 rfl)) ?_  -- 1:2 iter.go:60 t2 assign
  refine J.end_ ?_
  refine C.keep (.cons 0 rfl .nil) ?_
  refine C.ret ?_
  refine X.ret1 rfl 0 rfl (fun w hA => ?_)
  exact PostU.of (X := Sl) s hs hA

end Go.Proofs
namespace Go.Cab
set_option linter.unusedSimpArgs false
set_option linter.unusedVariables false
open Go Go.J
abbrev Gone := List (Int × Int)
def addGone (es : Gone) (k : Int) : Gone := putM k ((lk k es).getD 0 + 1) es
def addGones (es : Gone) (ks : List Int) : Gone := ks.foldl addGone es
def lostStep (c : Cable) (stuck : List Int) (es : Gone) (f : Int) : Gone := if (lk f es).isSome then es else addGones es (subtree c (opensV c stuck f))
def lostTo (c : Cable) (stuck : List Int) (fs : List Int) : Gone := fs.foldl (lostStep c stuck) []
def lostV (c : Cable) (faults stuck : List Int) : List Int := ((lostTo c stuck faults).map (·.1)).mergeSort fun x y => decide (x ≤ y)
theorem take_foldl {α β : Type} {f : β → α → β} {b : β} {l : List α} {j : Nat} {y : α} (hy : l[j]? = some y) : (l.take (j + 1)).foldl f b = f ((l.take j).foldl f b) y := by
  obtain ⟨hl, he⟩ := List.getElem?_eq_some_iff.1 hy
  rw [List.take_succ_eq_append_getElem hl, he, List.foldl_append]; rfl
def GB (B : Nat) (es : Gone) : Prop := ∀ p ∈ es, 0 ≤ p.2 ∧ p.2 ≤ B
theorem lk_mem {K X : Type} [DecidableEq K] {es : List (K × X)} {k : K} {x : X} (h : lk k es = some x) : (k, x) ∈ es := by
  unfold lk at h
  obtain ⟨p, hp, rfl⟩ := Option.map_eq_some_iff.1 h
  have h1 := List.find?_some hp
  have h2 := List.mem_of_find?_eq_some hp
  simp at h1
  rw [← h1]; exact h2
theorem GB.get {B : Nat} {es : Gone} (h : GB B es) (k : Int) : 0 ≤ (lk k es).getD 0 ∧ (lk k es).getD 0 ≤ B := by
  cases hl : lk k es with
  | none => simp
  | some x => exact h _ (lk_mem hl)
theorem GB.mono {B C : Nat} {es : Gone} (h : GB B es) (hc : B ≤ C) : GB C es := fun p hp => ⟨(h p hp).1, by have := (h p hp).2; omega⟩
theorem GB.add {B : Nat} {es : Gone} (h : GB B es) (k : Int) : GB (B + 1) (addGone es k) := by
  have hg := h.get k
  intro p hp
  unfold addGone putM at hp
  split at hp
  · rcases List.mem_or_eq_of_mem_set hp with hp | rfl
    · have := h p hp; exact ⟨this.1, by omega⟩
    · exact ⟨by simp only; omega, by simp only; omega⟩
  · rcases List.mem_append.1 hp with hp | hp
    · have := h p hp; exact ⟨this.1, by omega⟩
    · simp at hp; subst hp; exact ⟨by simp only; omega, by simp only; omega⟩
theorem subtree_len60 {c : Cable} (hF : Fit c) (k : Int) : (subtree c k).length ≤ 60 := by
  have := List.length_filter_le (fun i => decide (k ∈ path c i)) ((List.range c.nodes.length).map fun i : Nat => (i : Int))
  simp only [List.length_map, List.length_range] at this
  have := hF.le
  unfold subtree; omega
theorem opens_bound {c : Cable} (hF : Fit c) {stuck : List Int} {f : Int} : 0 ≤ opensV c stuck f ∧ opensV c stuck f < c.nodes.length := Go.Proofs.best_bound hF
theorem addGone_ne {es : Gone} {k : Int} : addGone es k ≠ [] := by
  unfold addGone putM
  split
  · rename_i i hi
    intro h
    obtain ⟨x, hx, _⟩ := find_of_idx hi
    have := congrArg List.length h
    simp at this
    subst this; simp at hx
  · simp
theorem putM_len {K X : Type} [DecidableEq K] {k : K} {x : X} {es : List (K × X)} : (putM k x es).length ≤ es.length + 1 := by
  unfold putM; split <;> simp
end Go.Cab
namespace Go.J
theorem J.mapOpen {r : Option Nat} {P : Program} {N : Nat} {ops : Array Oper} {Q : Exit → Act → World → Prop} {rest : List Oper} {D : List Deferred} {L : List (Nat × Value)} {w₀ : World} {F : Nat → Prop} {M M' Φ : List Res} {K X : Type} {b : Nat} {ek : K → Value} {ev : X → Value} {es : List (K × X)}
    (p : Pick M (mapR b ek ev es) M') (k : ∀ arr clock, Ents arr clock → arr.toList.map (fun e => (e.key, e.val)) = es.map (fun p => (ek p.1, ev p.2)) → J r P N ops Q rest D L (St w₀ F (own b (.map arr clock) :: M') Φ)) : J r P N ops Q rest D L (St w₀ F M Φ) := by
  intro a w hf hA
  have h1 := hA.front p
  obtain ⟨arr, clock, h2, h3, h4, h5⟩ := (h1.own_ _ (List.mem_cons_self ..)).1
  refine k arr clock ⟨h4, h5⟩ h3 a w hf ?_
  refine h1.turn (fun b' hb => hb) (fun _ => h2)
theorem J.join2 {r : Option Nat} {P : Program} {N : Nat} {ops : Array Oper} {Q : Exit → Act → World → Prop} {rest : List Oper} {D : List Deferred} {L : List (Nat × Value)} {w₀ : World} {F : Nat → Prop} {M Φ : List Res} {x y : Res} (h : J r P N ops Q rest D L (St w₀ F (sep x y :: M) Φ)) : J r P N ops Q rest D L (St w₀ F (x :: y :: M) Φ) :=
  J.conseq (fun _ h => h.join) h
theorem St.addEmp {w₀ w : World} {F : Nat → Prop} {M Φ : List Res} (h : St w₀ F M Φ w) : St w₀ F M (emp :: Φ) w := h.addΦ trivial (fun b hb => hb.elim) (fun r _ b _ hb => hb)
end Go.J
namespace Go.Proofs
open Go Go.J Go.RowKit Go.Cab
set_option maxRecDepth 4096
set_option linter.unusedSimpArgs false
set_option linter.unusedVariables false
theorem IterN.conv {P : Program} {f : FuncId} {cap : List Value} {V : Type} {ev ev' : V → List Value} {Nx Nx' : List V → V → Prop} {Fin : List V → Prop} {mine need : Res} (h : IterN P f cap ev Nx Fin mine need) (hv : ∀ i v, Nx i v → ev v = ev' v) (hx : ∀ i v, Nx i v → Nx' i v) : IterN P f cap ev' Nx' Fin mine need := by
  intro l Γ I g₀ G X w h1 h2 h3 h4 h5 h6 h7
  exact h l Γ I g₀ G X w h1 (fun i g w v hn hI hlt => by rw [hv i v hn]; exact h2 i g w v (hx i v hn) hI hlt) h3 h4 h5 h6 h7

theorem Keys_calls (w : World) (bm : Nat) : Calls Try.prog 41 [.map (some bm)].toArray w (PostN (fun _ : Nat => True) (fun x => .func (.func 60) [].toArray [.pointer (some ⟨x, 0, none⟩)].toArray) (fun x => bx x 76 [.map (some bm)]) w) := by
  refine Calls.enter Try.func41 rfl rfl rfl ?_
  refine C.conseq (A' := St w no [] []) (fun _ e => by subst e; exact St.init _ [] (by simp)) ?_
  refine C.seq ?_
  refine C.reg ?_
  refine J.box rfl rfl rfl rfl (.t 0 rfl) rfl ?_; intro b1 hb1  -- 0:0 iter.go:25 t1 box
  refine J.q rfl rfl rfl rfl (Q.assign .c) ?_  -- 0:1 iter.go:25 t2 assign
  refine J.end_ ?_
  refine C.keep (.cons 1 rfl .nil) ?_
  refine C.seq ?_
  refine C.reg ?_
  refine J.q rfl rfl rfl rfl (Q.makeFunc .nil (.cons (.t 0 rfl) .nil)) ?_  -- 1:0 iter.go:26 t3 makeFunc
  refine J.q rfl rfl rfl rfl (Q.assign (.t 0 rfl)) ?_  -- 1:1 iter.go:26 t2 assign
  refine J.end_ ?_
  refine C.keep (.cons 0 rfl .nil) ?_
  refine C.ret ?_
  refine X.ret1 rfl 0 rfl (fun w hA => ?_)
  exact PostN.of (X := Nat) b1 trivial hA

theorem SortedN_calls {V : Type} (val : V → Int) (f : Nat) (cap : List Value) (he : En Try.prog f) (Nx : List V → V → Prop) (Fin : List V → Prop) (mine need : Res) (it : IterN Try.prog f cap (fun v => [I64 (val v)]) Nx Fin mine need) (hb : ∀ i v, Nx i v → i.length ≤ 1000000) (hfin : ∀ i, Fin i → i ≠ [] ∧ i.length ≤ 1000000) (w : World) (hm : mine.ok w) (hne : need.ok w) (hap : Apart mine need) : Calls Try.prog 40 [.func (.func f) [].toArray cap.toArray].toArray w (PostU (fun s : Sl => (∃ i, Fin i ∧ s.xs = (i.map val).mergeSort fun x y => decide (x ≤ y)) ∧ s.n = s.xs.length) (fun s => s.val) mine (fun s => s.grow) w) := by
  refine Calls.enter Try.func40 rfl rfl rfl ?_
  refine C.conseq (A' := St w mine.U [mine] [need]) (fun _ e => by subst e; exact St.init1 _ _ _ hm (by intro i hi; simp only [List.mem_singleton] at hi; subst hi; exact ⟨hne, hap⟩)) ?_
  refine C.seq ?_
  refine C.reg ?_
  refine J.q rfl rfl rfl rfl (Q.assign .c) ?_  -- 0:0 iter.go:66 t2 assign
  refine J.end_ ?_
  refine C.keep (.cons 1 rfl .nil) ?_
  refine C.seq ?_
  refine C.reg ?_
  refine J.q rfl rfl rfl rfl (Q.move (.t 0 rfl)) ?_  -- 1:0 iter.go:67 t4 move
  refine J.callU rfl rfl rfl rfl (run_static Try.call31 .f (.cons (.t 0 rfl) .nil) rfl) (fun _ => .here) (fun w hA => CollectN_calls val f cap he Nx Fin mine need it hb w (hA.okM (r := mine) 0 rfl) (hA.ok (r := need) 0 rfl) hap) ?_  -- 1:1 iter.go:67 t5 call
  intro s hs
  obtain ⟨⟨i, hi, hsx⟩, hsn⟩ := hs
  obtain ⟨hne', hle'⟩ := hfin i hi
  have hlen : s.xs.length = i.length := by rw [hsx, List.length_map]
  refine J.q rfl rfl rfl rfl (Q.assign (.t 0 rfl)) ?_  -- 1:2 iter.go:67 t3 assign
  refine J.end_ ?_
  refine C.keep (.cons 0 rfl .nil) ?_
  refine C.seq ?_
  refine C.reg ?_
  refine J.q rfl rfl rfl rfl (Q.move (.t 0 rfl)) ?_  -- 2:0 iter.go:68 t6 move
  refine J.callU rfl rfl rfl rfl (run_static Try.call53 .f (.cons (.t 0 rfl) .nil) rfl) (fun _ => .here) (fun w hA => sort_int_grown Try.laysSort (hA.okM (r := rowG 3 1 s.a s.n s.c (s.xs.map I64)) 0 rfl) (by intro h; rw [h] at hlen; exact hne' (List.eq_nil_of_length_eq_zero hlen.symm)) (by omega)) ?_  -- 2:1 iter.go:68 t7 call
  intro _ _
  refine J.end_ ?_
  refine C.keep (.cons 2 rfl .nil) ?_
  refine C.seq ?_
  refine C.reg ?_
  refine J.q rfl rfl rfl rfl (Q.move (.t 0 rfl)) ?_  -- 3:0 iter.go:69 t8 move
  refine J.q rfl rfl rfl rfl (Q.assign (.t 0 rfl)) ?_  -- 3:1 iter.go:69 t2 assign
  refine J.end_ ?_
  refine C.keep (.cons 0 rfl .nil) ?_
  refine C.ret ?_
  refine X.ret1 rfl 0 rfl (fun w hA => ?_)
  exact PostU.of (X := Sl) ⟨s.a, s.n, s.c, (s.xs.mergeSort fun x y => decide (x ≤ y))⟩ ⟨⟨i, hi, by rw [hsx]⟩, by simp [hsn]⟩ hA

end Go.Proofs
namespace Go.Proofs
open Go Go.J Go.RowKit Go.Cab
set_option maxRecDepth 4096
set_option linter.unusedSimpArgs false
set_option linter.unusedVariables false
/-- an entry's key -/
def keyV : Value → Int
  | .int _ x => x
  | _ => 0
def keyI (e : MapEntry) : Int := keyV e.key
section
variable {arr : Array MapEntry} {es : Gone}
theorem keyI_mem (hes : arr.toList.map (fun e => (e.key, e.val)) = es.map (fun p => (Value.int .i64 p.1, Value.int .i64 p.2))) {e : MapEntry} (he : e ∈ arr.toList) : e.key = Value.int .i64 (keyI e) := by
  have h1 : (e.key, e.val) ∈ arr.toList.map (fun e => (e.key, e.val)) := List.mem_map.2 ⟨e, he, rfl⟩
  rw [hes] at h1
  obtain ⟨p, _, hp⟩ := List.mem_map.1 h1
  simp only [Prod.mk.injEq] at hp
  simp [keyI, keyV, ← hp.1]
theorem keyI_ok (hes : arr.toList.map (fun e => (e.key, e.val)) = es.map (fun p => (Value.int .i64 p.1, Value.int .i64 p.2))) : ∀ i e, (e ∈ lft arr i ∧ (i ++ lft arr i).Perm arr.toList) → [e.key] = [I64 (keyI e)] := fun i e h => by rw [keyI_mem hes (List.mem_filter.1 h.1).1]
theorem keys_size (hes : arr.toList.map (fun e => (e.key, e.val)) = es.map (fun p => (Value.int .i64 p.1, Value.int .i64 p.2))) : arr.toList.length = es.length := by have := congrArg List.length hes; simpa using this
theorem keys_len (hes : arr.toList.map (fun e => (e.key, e.val)) = es.map (fun p => (Value.int .i64 p.1, Value.int .i64 p.2))) (hl : es.length ≤ 1000000) : ∀ i e, (e ∈ lft arr i ∧ (i ++ lft arr i).Perm arr.toList) → i.length ≤ 1000000 := fun i e h => by
  have := h.2.length_eq; have h2 := keys_size hes; simp only [List.length_append] at this; omega
theorem keys_fin (hes : arr.toList.map (fun e => (e.key, e.val)) = es.map (fun p => (Value.int .i64 p.1, Value.int .i64 p.2))) (hne : es ≠ []) (hl : es.length ≤ 1000000) : ∀ i : List MapEntry, i.Perm arr.toList → i ≠ [] ∧ i.length ≤ 1000000 := fun i h => by
  have := h.length_eq; have h2 := keys_size hes
  have : 0 < es.length := List.length_pos_iff.2 hne
  refine ⟨fun e => ?_, by omega⟩
  subst e; simp at this; simp at *; omega
theorem keys_map (hes : arr.toList.map (fun e => (e.key, e.val)) = es.map (fun p => (Value.int .i64 p.1, Value.int .i64 p.2))) : arr.toList.map keyI = es.map (·.1) := by
  have h1 := congrArg (List.map (fun p : Value × Value => keyV p.1)) hes
  rw [List.map_map, List.map_map] at h1
  exact h1
theorem lost_all (hes : arr.toList.map (fun e => (e.key, e.val)) = es.map (fun p => (Value.int .i64 p.1, Value.int .i64 p.2))) {c : Cable} {faults stuck : List Int} {i : List MapEntry} (hi : i.Perm arr.toList) (he : es = lostTo c stuck faults) : ((i.map keyI).mergeSort fun x y => decide (x ≤ y)) = lostV c faults stuck := by
  unfold lostV
  rw [← he, ← keys_map hes]
  have hs : ∀ l : List Int, (l.mergeSort fun x y => decide (x ≤ y)).Pairwise (fun x y : Int => x ≤ y) := fun l => (List.pairwise_mergeSort (le := fun x y : Int => decide (x ≤ y)) (fun a b c h1 h2 => by simp at *; omega) (fun a b => by simp; omega) l).imp (fun h => of_decide_eq_true h)
  exact (((List.mergeSort_perm _ _).trans (hi.map _)).trans (List.mergeSort_perm _ _).symm).eq_of_pairwise (fun a b _ _ h1 h2 => Int.le_antisymm h1 h2) (hs _) (hs _)
end
theorem any_bad {n : Nat} {faults : List Int} (h : ∀ f ∈ faults, 1 ≤ f ∧ f < n) : (faults.any fun k => decide (k < 1) || !(decide (0 ≤ k) && decide (k < n))) = false := by
  rw [List.any_eq_false]
  intro f hf
  have := h f hf
  simp; omega
theorem subtree_pos {c : Cable} (hF : Fit c) {k : Int} (h0 : 0 ≤ k) (h1 : k < c.nodes.length) : 0 < (subtree c k).length := by
  rw [← pre_sorted hF h0 h1]
  simp only [List.length_mergeSort]
  rw [pre_step hF h0 h1]; simp

theorem Lost_ok (w : World) (c : Cable) (a : Option Addr) (cc : Nat) (hr : (rowO a 8 Nd.enc c.nodes).ok w) (hcc : c.nodes.length ≤ cc) (h : c.check = 0) (fa : Option Addr) (fc : Nat) (faults : List Int) (hfr : (rowO fa 1 enI faults).ok w) (sa : Option Addr) (sc : Nat) (stuck : List Int) (hsr : (rowO sa 1 enI stuck).ok w) (hst0 : stuckV c stuck = 0) (hfl : faults.length ≤ 60) (hf0 : 0 < faults.length) (hfb : ∀ f ∈ faults, 1 ≤ f ∧ f < c.nodes.length) : Calls Try.prog 21 [.agg (c.cells a cc).toArray, .slice fa faults.length fc, .slice sa stuck.length sc].toArray w (PostN (fun s : Sl => s.xs = lostV c faults stuck ∧ s.n = s.xs.length) (fun s => .tuple [s.val, .int .i64 0].toArray) (fun s => s.grow) w) := by
  have hF := Fit.of h
  have hn0 := hF.pos
  have hn60 := hF.le
  obtain ⟨b, o, rfl⟩ := rowO.addr hr.1 (by omega)
  refine Calls.enter Try.func21 rfl rfl rfl ?_
  refine C.conseq (A' := St w no [] [rowO (some ⟨b, o, none⟩) 8 Nd.enc c.nodes, rowO fa 1 enI faults, rowO sa 1 enI stuck]) (fun _ e => by subst e; exact St.init _ _ (by simp [hr, hfr, hsr])) ?_
  refine C.seq ?_
  refine C.reg ?_
  refine J.box rfl rfl rfl rfl (.t 0 rfl) rfl ?_; intro b3 hb3  -- 0:0 cable.go:310 t3 box
  refine J.q rfl rfl rfl rfl (Q.assign .c) ?_  -- 0:1 cable.go:310 t6 assign
  refine J.q rfl rfl rfl rfl (Q.assign .c) ?_  -- 0:2 cable.go:310 t7 assign
  refine J.end_ ?_
  refine C.keep (.cons 2 rfl (.cons 4 rfl (.cons 5 rfl .nil))) ?_
  refine C.seq ?_
  refine C.reg ?_
  refine J.q rfl rfl rfl rfl (Q.loadsV (.t 0 rfl) ⟨Try.isAgg26, Try.sizeOf26⟩ (by first | (first | exact ldT 3 0 rfl (by repeat constructor) | exact ldTΦ 3 0 rfl (by repeat constructor) | exact ldT 3 1 rfl (by repeat constructor) | exact ldTΦ 3 1 rfl (by repeat constructor) | exact ldT 3 2 rfl (by repeat constructor) | exact ldTΦ 3 2 rfl (by repeat constructor) | exact ldT 3 3 rfl (by repeat constructor) | exact ldTΦ 3 3 rfl (by repeat constructor) | exact ldT 3 4 rfl (by repeat constructor) | exact ldTΦ 3 4 rfl (by repeat constructor) | exact ldT 3 5 rfl (by repeat constructor) | exact ldTΦ 3 5 rfl (by repeat constructor) | exact ldT 3 6 rfl (by repeat constructor) | exact ldO 0 rfl (by assumption) | exact ldO 1 rfl (by assumption) | exact ldO 2 rfl (by assumption) | exact ldO 3 rfl (by assumption) | exact ldOT 3 0 rfl (by assumption) (by repeat constructor) | exact ldOT 3 1 rfl (by assumption) (by repeat constructor) | exact ldOT 3 2 rfl (by assumption) (by repeat constructor) | exact ldOT 3 3 rfl (by assumption) (by repeat constructor)) | (first | exact ldO1 0 rfl (by assumption) rfl | exact ldO1 1 rfl (by assumption) rfl | exact ldO1 2 rfl (by assumption) rfl | exact ldO1 3 rfl (by assumption) rfl | exact ldO1 4 rfl (by assumption) rfl | exact ldO1 5 rfl (by assumption) rfl | exact ldM1 0 rfl (fun _ => rfl) (by assumption) rfl | exact ldM1 1 rfl (fun _ => rfl) (by assumption) rfl | exact ldM1 2 rfl (fun _ => rfl) (by assumption) rfl | exact ldM1 3 rfl (fun _ => rfl) (by assumption) rfl | exact ldM1 4 rfl (fun _ => rfl) (by assumption) rfl | exact ldM1 5 rfl (fun _ => rfl) (by assumption) rfl)) rfl) ?_  -- 1:0 cable.go:311 t19 load
  refine J.callS rfl rfl rfl rfl (run_static Try.call23 .f (.cons (.t 0 rfl) .nil) rfl) (fun w hA => open_ok w c _ cc (hA.ok (r := rowO _ 8 Nd.enc c.nodes) 0 rfl) hcc h) ?_  -- 1:1 cable.go:311 t20 call
  intro t ht
  refine openTree 0 rfl ?_
  refine J.q rfl rfl rfl rfl (Q.move (.t 0 rfl)) ?_  -- 1:2 cable.go:311 t18 move
  refine J.q rfl rfl rfl rfl (Q.extract (.t 0 rfl) rfl) ?_  -- 1:3 cable.go:311 t21 extract
  refine J.q rfl rfl rfl rfl (Q.extract (.t 1 rfl) rfl) ?_  -- 1:4 cable.go:311 t22 extract
  refine J.alloc rfl rfl rfl rfl Try.zeroValue57 rfl ?_; intro b8 hb8  -- 1:5 cable.go:311 t8 alloc
  refine J.s rfl rfl rfl (S.storeP (.t 0 rfl) (.t 2 rfl) Try.sizeOf57 rfl rfl (by (first | exact Nd.enc_one _ | (first | exact Span.enc_one _ | ((intro u hu; simp at hu; first | done | ((repeat' (rcases hu with rfl | hu)) <;> (try subst hu) <;> rfl)))))) (by (repeat (first | exact Upd.here | apply Upd.there))) (by (repeat constructor); done)) ?_  -- 1:6 cable.go:311 tNone store
  refine J.q rfl rfl rfl rfl (Q.assign (.t 1 rfl)) ?_  -- 1:7 cable.go:311 t9 assign
  refine J.end_ ?_
  refine C.keep (.cons 0 rfl (.cons 1 rfl (.cons 8 rfl (.cons 9 rfl .nil)))) ?_
  refine C.seq ?_
  refine C.seq ?_
  refine C.reg ?_
  refine J.q rfl rfl rfl rfl (Q.move (.t 0 rfl)) ?_  -- 2:0 cable.go:312 t23 move
  refine J.q rfl rfl rfl rfl (Q.neq (.t 0 rfl) .c) ?_  -- 2:1 cable.go:312 t24 binOp
  refine J.end_ ?_
  refine C.keep (.cons 0 rfl (.cons 2 rfl (.cons 3 rfl (.cons 4 rfl (.cons 5 rfl .nil))))) ?_
  refine C.cond (.t 0 rfl) (fun c0 => ?_) (fun c0 => ?_)  -- cond 0
  ·
    exact absurd c0 (by simp)
  ·
    refine C.skip ?_
    refine X.go ?_
    refine C.keep (.cons 2 rfl (.cons 3 rfl (.cons 4 rfl .nil))) ?_
    refine C.seq ?_
    refine C.seq ?_
    refine C.reg ?_
    refine J.q rfl rfl rfl rfl (Q.load (.t 0 rfl) Try.isAgg57 (by first | (first | exact ldT 1 0 rfl (by repeat constructor) | exact ldTΦ 1 0 rfl (by repeat constructor) | exact ldT 1 1 rfl (by repeat constructor) | exact ldTΦ 1 1 rfl (by repeat constructor) | exact ldT 1 2 rfl (by repeat constructor) | exact ldTΦ 1 2 rfl (by repeat constructor) | exact ldT 1 3 rfl (by repeat constructor) | exact ldTΦ 1 3 rfl (by repeat constructor) | exact ldT 1 4 rfl (by repeat constructor) | exact ldTΦ 1 4 rfl (by repeat constructor) | exact ldT 1 5 rfl (by repeat constructor) | exact ldTΦ 1 5 rfl (by repeat constructor) | exact ldT 1 6 rfl (by repeat constructor) | exact ldO 0 rfl (by assumption) | exact ldO 1 rfl (by assumption) | exact ldO 2 rfl (by assumption) | exact ldO 3 rfl (by assumption) | exact ldOT 1 0 rfl (by assumption) (by repeat constructor) | exact ldOT 1 1 rfl (by assumption) (by repeat constructor) | exact ldOT 1 2 rfl (by assumption) (by repeat constructor) | exact ldOT 1 3 rfl (by assumption) (by repeat constructor)) | (first | exact ldO1 0 rfl (by assumption) rfl | exact ldO1 1 rfl (by assumption) rfl | exact ldO1 2 rfl (by assumption) rfl | exact ldO1 3 rfl (by assumption) rfl | exact ldO1 4 rfl (by assumption) rfl | exact ldO1 5 rfl (by assumption) rfl | exact ldM1 0 rfl (fun _ => rfl) (by assumption) rfl | exact ldM1 1 rfl (fun _ => rfl) (by assumption) rfl | exact ldM1 2 rfl (fun _ => rfl) (by assumption) rfl | exact ldM1 3 rfl (fun _ => rfl) (by assumption) rfl | exact ldM1 4 rfl (fun _ => rfl) (by assumption) rfl | exact ldM1 5 rfl (fun _ => rfl) (by assumption) rfl))) ?_  -- 4:0 cable.go:315 t26 load
    refine J.q rfl rfl rfl rfl (Q.move (.t 3 rfl)) ?_  -- 4:1 cable.go:315 t27 move
    refine J.callV rfl rfl rfl rfl (run_static Try.call36 .f (.cons (.t 1 rfl) (.cons (.t 0 rfl) .nil)) rfl) (fun w hA => checkStuck_calls w c _ cc t.p t.q (hA.ok (r := rowO (some ⟨b, o, none⟩) 8 Nd.enc c.nodes) 3 rfl) (hA.ok (r := bx t.p 82 (c.tcells (some ⟨b, o, none⟩) cc t.q)) 1 rfl) sa sc stuck (hA.ok (r := rowO sa 1 enI stuck) 5 rfl)) ?_  -- 4:2 cable.go:315 t28 call
    refine J.q rfl rfl rfl rfl (Q.assign (.t 0 rfl)) ?_  -- 4:3 cable.go:315 t10 assign
    refine J.end_ ?_
    refine C.keep (.cons 0 rfl (.cons 4 rfl (.cons 5 rfl (.cons 6 rfl .nil)))) ?_
    refine C.seq ?_
    refine C.reg ?_
    refine J.q rfl rfl rfl rfl (Q.move (.t 0 rfl)) ?_  -- 5:0 cable.go:315 t29 move
    refine J.q rfl rfl rfl rfl (Q.neq (.t 0 rfl) .c) ?_  -- 5:1 cable.go:315 t30 binOp
    refine J.end_ ?_
    refine C.keep (.cons 0 rfl (.cons 2 rfl (.cons 3 rfl (.cons 4 rfl (.cons 5 rfl .nil))))) ?_
    refine C.cond (.t 0 rfl) (fun c1 => ?_) (fun c1 => ?_)  -- cond 1
    ·
      exact absurd c1 (by simp [hst0])
    ·
      refine C.skip ?_
      refine X.go ?_
      refine C.keep (.cons 2 rfl (.cons 3 rfl (.cons 4 rfl .nil))) ?_
      refine C.seq ?_
      refine C.seq ?_
      refine C.reg ?_
      refine J.q rfl rfl rfl rfl (Q.move (.t 1 rfl)) ?_  -- 7:0 cable.go:318 t32 move
      refine J.q rfl rfl rfl rfl (Q.len Try.underlying33 (.t 0 rfl)) ?_  -- 7:1 cable.go:318 t33 call
      refine J.q rfl rfl rfl rfl (Q.gtr (.t 0 rfl) .c) ?_  -- 7:2 cable.go:318 t34 binOp
      refine J.end_ ?_
      refine C.keep (.cons 0 rfl (.cons 3 rfl (.cons 4 rfl (.cons 5 rfl .nil)))) ?_
      refine C.cond (.t 0 rfl) (fun c2 => ?_) (fun c2 => ?_)  -- cond 2
      ·
        exact absurd c2 (by simp; omega)
      ·
        refine C.skip ?_
        refine X.go ?_
        refine C.keep (.cons 1 rfl (.cons 2 rfl (.cons 3 rfl .nil))) ?_
        refine C.seq ?_
        refine C.seq ?_
        refine C.reg ?_
        refine J.q rfl rfl rfl rfl (Q.move (.t 1 rfl)) ?_  -- 9:0 cable.go:321 t35 move
        refine J.q rfl rfl rfl rfl (Q.makeFunc .nil (.cons (.t 1 rfl) .nil)) ?_  -- 9:1 cable.go:321 t36 makeFunc
        refine J.conseq (A' := St w no [bx b3 26 (c.cells (some ⟨b, o, none⟩) cc)] [bx b8 57 [.pointer (some ⟨t.p, 0, none⟩)], needR c (some ⟨b, o, none⟩) cc t.p t.q, bx t.p 82 (c.tcells (some ⟨b, o, none⟩) cc t.q), bigR (t.res c (some ⟨b, o, none⟩) cc), rowO (some ⟨b, o, none⟩) 8 Nd.enc c.nodes, rowO fa 1 enI faults, rowO sa 1 enI stuck]) (fun _ h => h.freeze) ?_
        refine J.callV rfl rfl rfl rfl (run_static Try.call37 .f (.cons (.t 1 rfl) (.cons (.t 0 rfl) .nil)) rfl) (fun w hA => ContainsFunc_calls w fa fc faults (hA.ok (r := rowO fa 1 enI faults) 5 rfl) (by omega) 38 [.pointer (some ⟨b8, 0, none⟩)] Try.call38 (fun k => decide (k < 1) || !(decide (0 ≤ k) && decide (k < c.nodes.length))) [bx b8 57 [.pointer (some ⟨t.p, 0, none⟩)], bx t.p 82 (c.tcells (some ⟨b, o, none⟩) cc t.q), rowO (some ⟨b, o, none⟩) 8 Nd.enc c.nodes] (fun r h => (fun hm => ⟨(hA.imm r hm).1, (hA.imm r hm).2.1⟩) (by simp at h ⊢; rcases h with h | h | h <;> simp [h])) (fun x W hW => badFault_calls W c (some ⟨b, o, none⟩) cc t.p t.q b8 (hW _ (by simp)) (hW _ (by simp)) (hW _ (by simp)) x)) ?_  -- 9:2 cable.go:321 t37 call
        refine J.end_ ?_
        refine C.keep (.cons 0 rfl (.cons 3 rfl (.cons 4 rfl (.cons 5 rfl .nil)))) ?_
        refine C.cond (.t 0 rfl) (fun c3 => ?_) (fun c3 => ?_)  -- cond 3
        ·
          exact absurd c3 (by rw [any_bad hfb]; simp)
        ·
          refine C.skip ?_
          refine X.go ?_
          refine C.keep (.cons 1 rfl (.cons 2 rfl (.cons 3 rfl .nil))) ?_
          refine C.seq ?_
          refine C.reg ?_
          refine J.mkMap (fun x : Int => Value.int .i64 x) (fun x : Int => Value.int .i64 x) rfl rfl rfl rfl ?_; intro bm hbm
          refine J.q rfl rfl rfl rfl (Q.assign (.t 0 rfl)) ?_  -- 11:1 cable.go:324 t11 assign
          refine J.end_ ?_
          refine C.keep (.cons 0 rfl (.cons 2 rfl (.cons 3 rfl (.cons 4 rfl .nil)))) ?_
          refine C.seq ?_
          refine C.seq ?_
          refine C.reg ?_
          refine J.q rfl rfl rfl rfl (Q.move (.t 2 rfl)) ?_  -- 12:0 cable.go:325 t39 move
          refine J.q rfl rfl rfl rfl (Q.len Try.underlying33 (.t 0 rfl)) ?_  -- 12:1 cable.go:325 t40 call
          refine J.q rfl rfl rfl rfl (Q.move .c) ?_  -- 12:2 cable.go:325 t41 move
          refine J.end_ ?_
          refine C.keep (.cons 0 rfl (.cons 1 rfl (.cons 2 rfl (.cons 3 rfl (.cons 4 rfl (.cons 6 rfl .nil)))))) ?_
          refine C.block ?_
          refine C.loop_1 (fun g => .int .i64 (g.1.1 : Int)) (G := { g : Nat × Gone // g.1 ≤ faults.length ∧ g.2 = lostTo c stuck (faults.take g.1) ∧ GB (60 * g.1) g.2 ∧ g.2.length ≤ 60 * g.1 ∧ (0 < g.1 → g.2 ≠ []) }) (fun g => St w no [mapR bm (fun x : Int => Value.int .i64 x) (fun x : Int => Value.int .i64 x) g.1.2, bx b3 26 (c.cells (some ⟨b, o, none⟩) cc)] [bx b8 57 [.pointer (some ⟨t.p, 0, none⟩)], needR c (some ⟨b, o, none⟩) cc t.p t.q, bx t.p 82 (c.tcells (some ⟨b, o, none⟩) cc t.q), bigR (t.res c (some ⟨b, o, none⟩) cc), rowO (some ⟨b, o, none⟩) 8 Nd.enc c.nodes, rowO fa 1 enI faults, rowO sa 1 enI stuck]) (fun g => faults.length - g.1.1) (⟨(0, []), by simp, rfl, by intro p hp; simp at hp, by simp, by simp⟩) (by (first | rfl | (simp; done))) ?_ ?_
          ·
            (exact fun _ h => h)
          ·
            rintro ⟨⟨i, es⟩, hi, hes0, hgb, hel, hen⟩
            dsimp only
            dsimp only at hi hes0 hgb hel hen
            refine C.seq ?_
            refine C.reg ?_
            refine J.q rfl rfl rfl rfl (Q.lss (.t 0 rfl) (.t 1 rfl)) ?_  -- 13:0 cable.go:325 t42 binOp
            refine J.end_ ?_
            refine C.seq ?_
            refine C.cond (.t 0 rfl) (fun c4 => ?_) (fun c4 => ?_)  -- cond 4
            ·
              simp only [decide_eq_true_eq, decide_eq_false_iff_not, Bool.and_eq_true, Bool.or_eq_true, Bool.and_eq_false_iff, Bool.or_eq_false_iff, Bool.not_eq_true', Bool.not_eq_false', beq_iff_eq, bne_iff_ne, Int.not_lt, Int.not_le, Decidable.not_not, ne_eq] at c4
              have hlt : i < faults.length := by omega
              obtain ⟨f, hx⟩ := get_lt hlt
              have hfb1 := hfb f (List.mem_of_getElem? hx)
              obtain ⟨bf, of, rfl⟩ := rowO.addr hfr.1 (by omega)
              have hob := opens_bound hF (stuck := stuck) (f := f)
              refine C.skip ?_
              refine X.go ?_
              refine C.keep (.cons 1 rfl (.cons 2 rfl (.cons 3 rfl (.cons 4 rfl (.cons 5 rfl (.cons 6 rfl .nil)))))) ?_
              refine C.seq ?_
              refine C.block ?_
              refine C.seq ?_
              refine C.reg ?_
              refine J.q rfl rfl rfl rfl (Q.indexAddr Try.underlying33 Try.sizeOf3 (.t 2 rfl) (.t 0 rfl) (by omega)) ?_  -- 14:0 cable.go:325 t43 indexAddr
              refine J.q rfl rfl rfl rfl (Q.load (.t 0 rfl) Try.isAgg3 (by exact ldO1 5 rfl hx rfl)) ?_  -- 14:1 cable.go:325 t44 load
              refine J.q rfl rfl rfl rfl (Q.assign (.t 0 rfl)) ?_  -- 14:2 cable.go:325 t13 assign
              refine J.end_ ?_
              refine C.keep (.cons 0 rfl (.cons 3 rfl (.cons 4 rfl (.cons 5 rfl (.cons 6 rfl (.cons 7 rfl (.cons 8 rfl .nil))))))) ?_
              refine C.seq ?_
              refine C.seq ?_
              refine C.reg ?_
              refine J.q rfl rfl rfl rfl (Q.move (.t 4 rfl)) ?_  -- 15:0 cable.go:326 t46 move
              refine J.q rfl rfl rfl rfl (Q.move (.t 1 rfl)) ?_  -- 15:1 cable.go:326 t47 move
              refine J.q rfl rfl rfl rfl (Q.lookupOk (z := (0 : Int)) (k := f) (ek := (fun x : Int => Value.int .i64 x)) (ev := (fun x : Int => Value.int .i64 x)) (KeyOps.int Try.underlying3) Try.underlying76 Try.zeroValue3 (.t 1 rfl) (.t 0 rfl) (fun w hA => hA.get 0 rfl)) ?_
              refine J.q rfl rfl rfl rfl (Q.move (.t 0 rfl)) ?_  -- 15:3 cable.go:326 t45 move
              refine J.q rfl rfl rfl rfl (Q.extract (.t 0 rfl) rfl) ?_  -- 15:4 cable.go:326 t49 extract
              refine J.q rfl rfl rfl rfl (Q.extract (.t 1 rfl) rfl) ?_  -- 15:5 cable.go:326 t50 extract
              refine J.q rfl rfl rfl rfl (Q.assign (.t 1 rfl)) ?_  -- 15:6 cable.go:326 t14 assign
              refine J.q rfl rfl rfl rfl (Q.assign (.t 1 rfl)) ?_  -- 15:7 cable.go:326 t15 assign
              refine J.end_ ?_
              refine C.keep (.cons 0 rfl (.cons 8 rfl (.cons 9 rfl (.cons 10 rfl (.cons 11 rfl (.cons 12 rfl (.cons 13 rfl (.cons 14 rfl .nil)))))))) ?_
              refine C.seq ?_
              refine C.reg ?_
              refine J.q rfl rfl rfl rfl (Q.move (.t 0 rfl)) ?_  -- 16:0 cable.go:326 t51 move
              refine J.end_ ?_
              refine C.keep (.cons 0 rfl (.cons 2 rfl (.cons 3 rfl (.cons 4 rfl (.cons 5 rfl (.cons 6 rfl (.cons 7 rfl (.cons 8 rfl .nil)))))))) ?_
              refine C.cond (.t 0 rfl) (fun c5 => ?_) (fun c5 => ?_)  -- cond 5
              ·
                refine C.exit ?_
                refine X.thenExit ?_
                refine X.inHit ?_
                refine X.go ?_
                refine C.keep (.cons 2 rfl (.cons 3 rfl (.cons 4 rfl (.cons 5 rfl (.cons 6 rfl (.cons 7 rfl .nil)))))) ?_
                refine C.reg ?_
                refine J.q rfl rfl rfl rfl (Q.add (.t 0 rfl) .c (by omega)) ?_  -- 22:0 cable.go:325 t68 binOp
                refine J.keep (.cons 0 rfl (.cons 2 rfl (.cons 3 rfl (.cons 4 rfl (.cons 5 rfl (.cons 6 rfl .nil)))))) ?_
                refine J.q rfl rfl rfl rfl (Q.move (.t 0 rfl)) ?_  -- 22:1 cable.go:325 t41 move
                refine J.done ?_
                refine X.nx (⟨(i + 1, es), by simp only; omega, by rw [lostTo, take_foldl hx, ← lostTo, ← hes0, lostStep, if_pos c5], hgb.mono (by omega), by simp only; omega, fun _ h => by dsimp only at h; rw [h] at c5; simp [lk] at c5⟩) (.cons 0 (by (first | rfl | (simp; done))) (.cons 2 (by (first | rfl | (simp; done))) (.cons 3 (by (first | rfl | (simp; done))) (.cons 4 (by (first | rfl | (simp; done))) (.cons 5 (by (first | rfl | (simp; done))) (.cons 6 (by (first | rfl | (simp; done))) .nil)))))) ?_ ?_
                ·
                  (exact fun _ h => h)
                ·
                  simp; omega
              ·
                refine C.skip ?_
                refine X.go ?_
                refine C.keep (.cons 1 rfl (.cons 2 rfl (.cons 3 rfl (.cons 4 rfl (.cons 5 rfl (.cons 6 rfl (.cons 7 rfl .nil))))))) ?_
                refine C.seq ?_
                refine C.drawS ?_
                refine JC.q 0 rfl rfl rfl rfl (Q.load (.t 5 rfl) Try.isAgg57 (by first | (first | exact ldT 1 0 rfl (by repeat constructor) | exact ldTΦ 1 0 rfl (by repeat constructor) | exact ldT 1 1 rfl (by repeat constructor) | exact ldTΦ 1 1 rfl (by repeat constructor) | exact ldT 1 2 rfl (by repeat constructor) | exact ldTΦ 1 2 rfl (by repeat constructor) | exact ldT 1 3 rfl (by repeat constructor) | exact ldTΦ 1 3 rfl (by repeat constructor) | exact ldT 1 4 rfl (by repeat constructor) | exact ldTΦ 1 4 rfl (by repeat constructor) | exact ldT 1 5 rfl (by repeat constructor) | exact ldTΦ 1 5 rfl (by repeat constructor) | exact ldT 1 6 rfl (by repeat constructor) | exact ldO 0 rfl (by assumption) | exact ldO 1 rfl (by assumption) | exact ldO 2 rfl (by assumption) | exact ldO 3 rfl (by assumption) | exact ldOT 1 0 rfl (by assumption) (by repeat constructor) | exact ldOT 1 1 rfl (by assumption) (by repeat constructor) | exact ldOT 1 2 rfl (by assumption) (by repeat constructor) | exact ldOT 1 3 rfl (by assumption) (by repeat constructor)) | (first | exact ldO1 0 rfl (by assumption) rfl | exact ldO1 1 rfl (by assumption) rfl | exact ldO1 2 rfl (by assumption) rfl | exact ldO1 3 rfl (by assumption) rfl | exact ldO1 4 rfl (by assumption) rfl | exact ldO1 5 rfl (by assumption) rfl | exact ldM1 0 rfl (fun _ => rfl) (by assumption) rfl | exact ldM1 1 rfl (fun _ => rfl) (by assumption) rfl | exact ldM1 2 rfl (fun _ => rfl) (by assumption) rfl | exact ldM1 3 rfl (fun _ => rfl) (by assumption) rfl | exact ldM1 4 rfl (fun _ => rfl) (by assumption) rfl | exact ldM1 5 rfl (fun _ => rfl) (by assumption) rfl))) ?_  -- 17:0 cable.go:329 t52 load
                refine JC.q 1 rfl rfl rfl rfl (Q.load (.t 6 rfl) Try.isAgg57 (by first | (first | exact ldT 1 0 rfl (by repeat constructor) | exact ldTΦ 1 0 rfl (by repeat constructor) | exact ldT 1 1 rfl (by repeat constructor) | exact ldTΦ 1 1 rfl (by repeat constructor) | exact ldT 1 2 rfl (by repeat constructor) | exact ldTΦ 1 2 rfl (by repeat constructor) | exact ldT 1 3 rfl (by repeat constructor) | exact ldTΦ 1 3 rfl (by repeat constructor) | exact ldT 1 4 rfl (by repeat constructor) | exact ldTΦ 1 4 rfl (by repeat constructor) | exact ldT 1 5 rfl (by repeat constructor) | exact ldTΦ 1 5 rfl (by repeat constructor) | exact ldT 1 6 rfl (by repeat constructor) | exact ldO 0 rfl (by assumption) | exact ldO 1 rfl (by assumption) | exact ldO 2 rfl (by assumption) | exact ldO 3 rfl (by assumption) | exact ldOT 1 0 rfl (by assumption) (by repeat constructor) | exact ldOT 1 1 rfl (by assumption) (by repeat constructor) | exact ldOT 1 2 rfl (by assumption) (by repeat constructor) | exact ldOT 1 3 rfl (by assumption) (by repeat constructor)) | (first | exact ldO1 0 rfl (by assumption) rfl | exact ldO1 1 rfl (by assumption) rfl | exact ldO1 2 rfl (by assumption) rfl | exact ldO1 3 rfl (by assumption) rfl | exact ldO1 4 rfl (by assumption) rfl | exact ldO1 5 rfl (by assumption) rfl | exact ldM1 0 rfl (fun _ => rfl) (by assumption) rfl | exact ldM1 1 rfl (fun _ => rfl) (by assumption) rfl | exact ldM1 2 rfl (fun _ => rfl) (by assumption) rfl | exact ldM1 3 rfl (fun _ => rfl) (by assumption) rfl | exact ldM1 4 rfl (fun _ => rfl) (by assumption) rfl | exact ldM1 5 rfl (fun _ => rfl) (by assumption) rfl))) ?_  -- 17:1 cable.go:329 t53 load
                refine JC.q 2 rfl rfl rfl rfl (Q.move (.t 2 rfl)) ?_  -- 17:2 cable.go:329 t54 move
                refine JC.q 3 rfl rfl rfl rfl (Q.move (.t 9 rfl)) ?_  -- 17:3 cable.go:329 t55 move
                refine JC.callV 4 rfl rfl rfl rfl (fun D => (run_static Try.call39 .f (.cons (.t 2 rfl) (.cons (.t 1 rfl) (.cons (.t 0 rfl) .nil))) rfl)) (fun w hA => opens_calls w c b o cc t.p t.q hF (hA.ok (r := rowO (some ⟨b, o, none⟩) 8 Nd.enc c.nodes) 4 rfl) (hA.ok (r := bx t.p 82 (c.tcells (some ⟨b, o, none⟩) cc t.q)) 2 rfl) sa sc stuck (hA.ok (r := rowO sa 1 enI stuck) 6 rfl) (by have := hst0; unfold stuckV at this; split at this <;> omega) f (by omega)) ?_  -- 17:4 cable.go:329 t56 call
                refine JC.q 7 rfl rfl rfl rfl (Q.move .c) ?_  -- 17:7 cable.go:329 t59 move
                refine JC.tail [0, 0, 0, 0, 14, 31, 63, 0] 2 mixed (by kernel_rfl) (by kernel_rfl) (by (first | (exact fun _ h => h) | (exact fun _ h => h.dropM) | (exact fun _ h => h.dropM.dropM) | (exact fun _ h => h.sub (by (repeat (first | exact List.Sublist.refl _ | exact List.nil_sublist _ | apply List.Sublist.cons_cons | apply List.Sublist.cons)); done)) | (exact fun _ h => h.subΦ (fun i hi => List.mem_cons_of_mem _ hi)))) ?_
                refine JT.pick [5] (by kernel_rfl) (.cons (DStep.of rfl ?_) .nil)
                refine J.callN rfl rfl rfl rfl (run_static Try.call32 .f (.cons (.t 5 rfl) (.cons (.t 1 rfl) .nil)) rfl) (fun w hA => subtree_calls w c (some ⟨b, o, none⟩) cc t hF ht (hA.ok (r := bigR (t.res c (some ⟨b, o, none⟩) cc)) 3 rfl) (opensV c stuck f) hob.1 hob.2) ?_  -- 17:5 cable.go:329 t57 call
                intro s hs
                refine J.conseq (A' := St w no (rowG 3 1 s.a s.n s.c (s.xs.flatMap enI) :: [mapR bm (fun x : Int => Value.int .i64 x) (fun x : Int => Value.int .i64 x) es, bx b3 26 (c.cells (some ⟨b, o, none⟩) cc)]) [bx b8 57 [.pointer (some ⟨t.p, 0, none⟩)], needR c (some ⟨b, o, none⟩) cc t.p t.q, bx t.p 82 (c.tcells (some ⟨b, o, none⟩) cc t.q), bigR (t.res c (some ⟨b, o, none⟩) cc), rowO (some ⟨b, o, none⟩) 8 Nd.enc c.nodes, rowO (some ⟨bf, of, none⟩) 1 enI faults, rowO sa 1 enI stuck]) (fun _ h => by rw [flat_enI]; exact h) ?_
                obtain ⟨hsx, hsn⟩ := hs
                have hs60 : s.xs.length ≤ 60 := by rw [hsx]; exact subtree_len60 hF _
                refine J.finD rfl rfl (by (first | (exact fun _ h => h) | (exact fun _ h => h.dropM) | (exact fun _ h => h.dropM.dropM) | (exact fun _ h => h.sub (by (repeat (first | exact List.Sublist.refl _ | exact List.nil_sublist _ | apply List.Sublist.cons_cons | apply List.Sublist.cons)); done)) | (exact fun _ h => h.subΦ (fun i hi => List.mem_cons_of_mem _ hi)))) ?_
                refine JT.pick [6] (by kernel_rfl) (.cons (DStep.of rfl ?_) .nil)
                refine J.q rfl rfl rfl rfl (Q.len Try.underlying33 (.t 0 rfl)) ?_  -- 17:6 cable.go:329 t58 call
                refine J.finD rfl rfl (by (first | (exact fun _ h => h) | (exact fun _ h => h.dropM) | (exact fun _ h => h.dropM.dropM) | (exact fun _ h => h.sub (by (repeat (first | exact List.Sublist.refl _ | exact List.nil_sublist _ | apply List.Sublist.cons_cons | apply List.Sublist.cons)); done)) | (exact fun _ h => h.subΦ (fun i hi => List.mem_cons_of_mem _ hi)))) ?_
                refine JT.end_ ?_
                refine X.go ?_
                refine C.keep (.cons 0 rfl (.cons 1 rfl (.cons 2 rfl (.cons 9 rfl (.cons 10 rfl (.cons 11 rfl (.cons 12 rfl (.cons 13 rfl (.cons 14 rfl .nil))))))))) ?_
                refine C.block ?_
                refine C.keep (.cons 2 rfl (.cons 0 rfl (.cons 1 rfl (.cons 3 rfl (.cons 4 rfl (.cons 5 rfl (.cons 6 rfl (.cons 7 rfl (.cons 8 rfl .nil))))))))) ?_
                refine C.loop_1 (fun g => .int .i64 (g.1.1 : Int)) (G := { g : Nat × Gone // g.1 ≤ s.xs.length ∧ g.2 = addGones es (s.xs.take g.1) ∧ GB (60 * i + g.1) g.2 ∧ g.2.length ≤ 60 * i + g.1 ∧ (0 < g.1 → g.2 ≠ []) }) (fun g => St w no [rowG 3 1 s.a s.n s.c (s.xs.flatMap enI), mapR bm (fun x : Int => Value.int .i64 x) (fun x : Int => Value.int .i64 x) g.1.2, bx b3 26 (c.cells (some ⟨b, o, none⟩) cc)] [bx b8 57 [.pointer (some ⟨t.p, 0, none⟩)], needR c (some ⟨b, o, none⟩) cc t.p t.q, bx t.p 82 (c.tcells (some ⟨b, o, none⟩) cc t.q), bigR (t.res c (some ⟨b, o, none⟩) cc), rowO (some ⟨b, o, none⟩) 8 Nd.enc c.nodes, rowO (some ⟨bf, of, none⟩) 1 enI faults, rowO sa 1 enI stuck]) (fun g => s.xs.length - g.1.1) (⟨(0, es), by simp, by simp [addGones], hgb, hel, by simp⟩) (by (first | rfl | (simp; done))) ?_ ?_
                ·
                  (exact fun _ h => h)
                ·
                  rintro ⟨⟨j, e2⟩, hj, he2, hgb2, hel2, he2n⟩
                  dsimp only
                  dsimp only at hj he2 hgb2 hel2 he2n
                  refine C.seq ?_
                  refine C.reg ?_
                  refine J.q rfl rfl rfl rfl (Q.lss (.t 0 rfl) (.t 1 rfl)) ?_  -- 18:0 cable.go:329 t60 binOp
                  refine J.end_ ?_
                  refine C.seq ?_
                  refine C.cond (.t 0 rfl) (fun c6 => ?_) (fun c6 => ?_)  -- cond 6
                  ·
                    simp only [decide_eq_true_eq, decide_eq_false_iff_not, Bool.and_eq_true, Bool.or_eq_true, Bool.and_eq_false_iff, Bool.or_eq_false_iff, Bool.not_eq_true', Bool.not_eq_false', beq_iff_eq, bne_iff_ne, Int.not_lt, Int.not_le, Decidable.not_not, ne_eq] at c6
                    have hlt2 : j < s.xs.length := by omega
                    obtain ⟨k, hk⟩ := get_lt hlt2
                    have hg := hgb2.get k
                    refine C.skip ?_
                    refine X.go ?_
                    refine C.keep (.cons 1 rfl (.cons 2 rfl (.cons 3 rfl (.cons 4 rfl (.cons 5 rfl (.cons 6 rfl (.cons 7 rfl (.cons 8 rfl (.cons 9 rfl .nil))))))))) ?_
                    refine C.seq ?_
                    refine C.block ?_
                    refine C.seq ?_
                    refine C.reg ?_
                    refine J.q rfl rfl rfl rfl (Q.ixG 0 rfl Try.underlying33 Try.sizeOf3 (.t 2 rfl) (.t 0 rfl) (by omega)) ?_
                    refine J.q rfl rfl rfl rfl (Q.load (.t 0 rfl) Try.isAgg3 (by exact ldGa0 (sz := 1) (enc := enI) 1 0 rfl (by decide) (fun _ => rfl) hk (.cons .nil))) ?_  -- 19:1 cable.go:329 t62 load
                    refine J.q rfl rfl rfl rfl (Q.assign (.t 0 rfl)) ?_  -- 19:2 cable.go:329 t17 assign
                    refine J.end_ ?_
                    refine C.keep (.cons 0 rfl (.cons 3 rfl (.cons 4 rfl (.cons 5 rfl (.cons 6 rfl (.cons 7 rfl (.cons 8 rfl (.cons 9 rfl (.cons 10 rfl (.cons 11 rfl .nil)))))))))) ?_
                    refine C.reg ?_
                    refine J.q rfl rfl rfl rfl (Q.move (.t 7 rfl)) ?_  -- 20:0 cable.go:330 t63 move
                    refine J.q rfl rfl rfl rfl (Q.move (.t 1 rfl)) ?_  -- 20:1 cable.go:330 t64 move
                    refine J.q rfl rfl rfl rfl (Q.lookup (z := (0 : Int)) (k := k) (ek := (fun x : Int => Value.int .i64 x)) (ev := (fun x : Int => Value.int .i64 x)) (KeyOps.int Try.underlying3) Try.underlying76 Try.zeroValue3 (.t 1 rfl) (.t 0 rfl) (fun w hA => hA.get 1 rfl)) ?_
                    refine J.q rfl rfl rfl rfl (Q.add (.t 0 rfl) .c (by omega)) ?_  -- 20:3 cable.go:330 t66 binOp
                    refine J.s rfl rfl rfl (S.mapUpdate (k := k) (xv := (lk k e2).getD 0 + 1) (ek := (fun x : Int => Value.int .i64 x)) (ev := (fun x : Int => Value.int .i64 x)) (KeyOps.int Try.underlying3) Try.underlying76 (.t 3 rfl) (.t 2 rfl) (.t 0 rfl) (.there .here)) ?_
                    refine J.done ?_
                    refine X.inNormal ?_
                    refine X.go ?_
                    refine C.keep (.cons 5 rfl (.cons 6 rfl (.cons 7 rfl (.cons 8 rfl (.cons 9 rfl (.cons 10 rfl (.cons 11 rfl (.cons 12 rfl (.cons 13 rfl .nil))))))))) ?_
                    refine C.reg ?_
                    refine J.q rfl rfl rfl rfl (Q.add (.t 0 rfl) .c (by omega)) ?_  -- 21:0 cable.go:329 t67 binOp
                    refine J.keep (.cons 0 rfl (.cons 2 rfl (.cons 3 rfl (.cons 4 rfl (.cons 5 rfl (.cons 6 rfl (.cons 7 rfl (.cons 8 rfl (.cons 9 rfl .nil))))))))) ?_
                    refine J.q rfl rfl rfl rfl (Q.move (.t 0 rfl)) ?_  -- 21:1 cable.go:329 t59 move
                    refine J.done ?_
                    refine X.nx (⟨(j + 1, addGone e2 k), by simp only; omega, by rw [addGones, take_foldl hk, ← addGones, ← he2], hgb2.add k, by have := putM_len (k := k) (x := (lk k e2).getD 0 + 1) (es := e2); simp only [addGone]; omega, fun _ => addGone_ne⟩) (.cons 0 (by (first | rfl | (simp; done))) (.cons 2 (by (first | rfl | (simp; done))) (.cons 3 (by (first | rfl | (simp; done))) (.cons 4 (by (first | rfl | (simp; done))) (.cons 5 (by (first | rfl | (simp; done))) (.cons 6 (by (first | rfl | (simp; done))) (.cons 7 (by (first | rfl | (simp; done))) (.cons 8 (by (first | rfl | (simp; done))) (.cons 9 (by (first | rfl | (simp; done))) .nil))))))))) ?_ ?_
                    ·
                      (exact fun _ h => h)
                    ·
                      simp; omega
                  ·
                    simp only [decide_eq_true_eq, decide_eq_false_iff_not, Bool.and_eq_true, Bool.or_eq_true, Bool.and_eq_false_iff, Bool.or_eq_false_iff, Bool.not_eq_true', Bool.not_eq_false', beq_iff_eq, bne_iff_ne, Int.not_lt, Int.not_le, Decidable.not_not, ne_eq] at c6
                    refine C.exit ?_
                    refine X.thenExit ?_
                    refine X.thenExit ?_
                    refine X.inHit ?_
                    refine X.inNormal ?_
                    refine X.go ?_
                    refine C.keep (.cons 4 rfl (.cons 5 rfl (.cons 6 rfl (.cons 7 rfl (.cons 8 rfl (.cons 9 rfl .nil)))))) ?_
                    refine C.reg ?_
                    refine J.q rfl rfl rfl rfl (Q.add (.t 0 rfl) .c (by omega)) ?_  -- 22:0 cable.go:325 t68 binOp
                    refine J.keep (.cons 0 rfl (.cons 2 rfl (.cons 3 rfl (.cons 4 rfl (.cons 5 rfl (.cons 6 rfl .nil)))))) ?_
                    refine J.q rfl rfl rfl rfl (Q.move (.t 0 rfl)) ?_  -- 22:1 cable.go:325 t41 move
                    refine J.done ?_
                    refine X.nx (⟨(i + 1, e2), by simp only; omega, by rw [lostTo, take_foldl hx, ← lostTo, ← hes0, lostStep, if_neg (by rw [c5]; simp), ← hsx, he2, List.take_of_length_le (by omega)], hgb2.mono (by have := subtree_len60 hF (opensV c stuck f); rw [← hsx] at this; omega), by have := subtree_len60 hF (opensV c stuck f); rw [← hsx] at this; simp only; omega, fun _ => he2n (by have hs1 : 0 < s.xs.length := (by rw [hsx]; exact subtree_pos hF hob.1 hob.2); omega)⟩) (.cons 0 (by (first | rfl | (simp; done))) (.cons 2 (by (first | rfl | (simp; done))) (.cons 3 (by (first | rfl | (simp; done))) (.cons 4 (by (first | rfl | (simp; done))) (.cons 5 (by (first | rfl | (simp; done))) (.cons 6 (by (first | rfl | (simp; done))) .nil)))))) ?_ ?_
                    ·
                      exact fun _ h => h.dropM
                    ·
                      simp; omega
            ·
              simp only [decide_eq_true_eq, decide_eq_false_iff_not, Bool.and_eq_true, Bool.or_eq_true, Bool.and_eq_false_iff, Bool.or_eq_false_iff, Bool.not_eq_true', Bool.not_eq_false', beq_iff_eq, bne_iff_ne, Int.not_lt, Int.not_le, Decidable.not_not, ne_eq] at c4
              refine C.exit ?_
              refine X.thenExit ?_
              refine X.thenExit ?_
              refine X.inHit ?_
              refine X.go ?_
              refine C.keep (.cons 4 rfl .nil) ?_
              refine C.seq ?_
              refine C.reg ?_
              refine J.q rfl rfl rfl rfl (Q.move (.t 0 rfl)) ?_  -- 23:0 cable.go:333 t69 move
              refine J.callN rfl rfl rfl rfl (run_static Try.call41 .f (.cons (.t 0 rfl) .nil) rfl) (fun w hA => Keys_calls w bm) ?_  -- 23:1 cable.go:333 t70 call
              intro x _
              refine J.mapOpen (.there .here) ?_
              intro arr clock hE hes
              refine J.conseq (fun _ h => (h.permM (.swap _ _ _)).addEmp) ?_
              refine J.join2 ?_
              refine J.callU rfl rfl rfl rfl (run_static Try.call40 .f (.cons (.t 0 rfl) .nil) rfl) (fun _ => .here) (fun w hA => SortedN_calls keyI 60 [.pointer (some ⟨x, 0, none⟩)] Try.call60 _ _ _ emp (IterN.conv (keys_iter x bm clock arr hE) (keyI_ok hes) (fun _ _ h => h)) (keys_len hes (by omega)) (keys_fin hes (hen (by omega)) (by omega)) w (hA.okM (r := sep (bx x 76 [.map (some bm)]) (own bm (.map arr clock))) 0 rfl) (hA.ok (r := emp) 0 rfl) (fun _ _ h => h)) ?_  -- 23:2 cable.go:333 t71 call
              intro s2 hs2
              obtain ⟨⟨li, hli, hsx⟩, hsn⟩ := hs2
              refine J.q rfl rfl rfl rfl (Q.assign (.t 0 rfl)) ?_  -- 23:3 cable.go:333 t6 assign
              refine J.q rfl rfl rfl rfl (Q.assign .c) ?_  -- 23:4 cable.go:333 t7 assign
              refine J.end_ ?_
              refine C.keep (.cons 0 rfl (.cons 1 rfl .nil)) ?_
              refine C.ret ?_
              refine X.ret2 rfl 1 0 rfl rfl (fun w hA => ?_)
              exact PostN.of (X := Sl) s2 ⟨by rw [hsx]; exact lost_all hes hli (by rw [hes0, List.take_of_length_le (by omega)]), hsn⟩ (hA.to (by (repeat (first | exact PermL.same | refine PermL.cons (by (repeat (first | exact Pick.here | apply Pick.there)); done) ?_ | exact PermL.drop | refine PermL.skip ?_)); done))

end Go.Proofs
namespace Go.Proofs
open Go Go.J Go.RowKit Go.Cab
set_option maxRecDepth 4096
set_option linter.unusedSimpArgs false
set_option linter.unusedVariables false
theorem Path_ok (w : World) (c : Cable) (a : Option Addr) (cc : Nat) (hr : (rowO a 8 Nd.enc c.nodes).ok w) (hcc : c.nodes.length ≤ cc) (h : c.check = 0) (k : Int) (h0 : 0 ≤ k) (h1 : k < c.nodes.length) : Calls Try.prog 16 [.agg (c.cells a cc).toArray, .int .i64 k].toArray w (PostN (fun s : Sl => s.xs = path c k ∧ s.n = s.xs.length) (fun s => .tuple [s.val, .int .i64 0].toArray) (fun s => s.grow) w) := by
  have hF := Fit.of h
  have hn0 := hF.pos
  have hn60 := hF.le
  obtain ⟨b, o, rfl⟩ := rowO.addr hr.1 (by omega)
  refine Calls.enter Try.func16 rfl rfl rfl ?_
  refine C.conseq (A' := St w no [] [rowO (some ⟨b, o, none⟩) 8 Nd.enc c.nodes]) (fun _ e => by subst e; exact St.init _ _ (by simp [hr])) ?_
  refine C.seq ?_
  refine C.reg ?_
  refine J.box rfl rfl rfl rfl (.t 0 rfl) rfl ?_; intro b2 hb2  -- 0:0 cable.go:88 t2 box
  refine J.q rfl rfl rfl rfl (Q.assign .c) ?_  -- 0:1 cable.go:88 t4 assign
  refine J.q rfl rfl rfl rfl (Q.assign .c) ?_  -- 0:2 cable.go:88 t5 assign
  refine J.end_ ?_
  refine C.keep (.cons 2 rfl (.cons 4 rfl .nil)) ?_
  refine C.seq ?_
  refine C.reg ?_
  refine J.q rfl rfl rfl rfl (Q.loadsV (.t 0 rfl) ⟨Try.isAgg26, Try.sizeOf26⟩ (by first | (first | exact ldT 3 0 rfl (by repeat constructor) | exact ldTΦ 3 0 rfl (by repeat constructor) | exact ldT 3 1 rfl (by repeat constructor) | exact ldTΦ 3 1 rfl (by repeat constructor) | exact ldT 3 2 rfl (by repeat constructor) | exact ldTΦ 3 2 rfl (by repeat constructor) | exact ldT 3 3 rfl (by repeat constructor) | exact ldTΦ 3 3 rfl (by repeat constructor) | exact ldT 3 4 rfl (by repeat constructor) | exact ldTΦ 3 4 rfl (by repeat constructor) | exact ldT 3 5 rfl (by repeat constructor) | exact ldTΦ 3 5 rfl (by repeat constructor) | exact ldT 3 6 rfl (by repeat constructor) | exact ldO 0 rfl (by assumption) | exact ldO 1 rfl (by assumption) | exact ldO 2 rfl (by assumption) | exact ldO 3 rfl (by assumption) | exact ldOT 3 0 rfl (by assumption) (by repeat constructor) | exact ldOT 3 1 rfl (by assumption) (by repeat constructor) | exact ldOT 3 2 rfl (by assumption) (by repeat constructor) | exact ldOT 3 3 rfl (by assumption) (by repeat constructor)) | (first | exact ldO1 0 rfl (by assumption) rfl | exact ldO1 1 rfl (by assumption) rfl | exact ldO1 2 rfl (by assumption) rfl | exact ldO1 3 rfl (by assumption) rfl | exact ldO1 4 rfl (by assumption) rfl | exact ldO1 5 rfl (by assumption) rfl | exact ldM1 0 rfl (fun _ => rfl) (by assumption) rfl | exact ldM1 1 rfl (fun _ => rfl) (by assumption) rfl | exact ldM1 2 rfl (fun _ => rfl) (by assumption) rfl | exact ldM1 3 rfl (fun _ => rfl) (by assumption) rfl | exact ldM1 4 rfl (fun _ => rfl) (by assumption) rfl | exact ldM1 5 rfl (fun _ => rfl) (by assumption) rfl)) rfl) ?_  -- 1:0 cable.go:89 t9 load
  refine J.callS rfl rfl rfl rfl (run_static Try.call23 .f (.cons (.t 0 rfl) .nil) rfl) (fun w hA => open_ok w c _ cc (hA.ok (r := rowO _ 8 Nd.enc c.nodes) 0 rfl) hcc h) ?_  -- 1:1 cable.go:89 t10 call
  intro t ht
  refine openTree 0 rfl ?_
  refine J.q rfl rfl rfl rfl (Q.move (.t 0 rfl)) ?_  -- 1:2 cable.go:89 t8 move
  refine J.q rfl rfl rfl rfl (Q.extract (.t 0 rfl) rfl) ?_  -- 1:3 cable.go:89 t11 extract
  refine J.q rfl rfl rfl rfl (Q.extract (.t 1 rfl) rfl) ?_  -- 1:4 cable.go:89 t12 extract
  refine J.q rfl rfl rfl rfl (Q.assign (.t 1 rfl)) ?_  -- 1:5 cable.go:89 t6 assign
  refine J.q rfl rfl rfl rfl (Q.assign (.t 1 rfl)) ?_  -- 1:6 cable.go:89 t7 assign
  refine J.end_ ?_
  refine C.keep (.cons 0 rfl (.cons 1 rfl (.cons 8 rfl .nil))) ?_
  refine C.seq ?_
  refine C.seq ?_
  refine C.reg ?_
  refine J.q rfl rfl rfl rfl (Q.move (.t 0 rfl)) ?_  -- 2:0 cable.go:90 t13 move
  refine J.q rfl rfl rfl rfl (Q.neq (.t 0 rfl) .c) ?_  -- 2:1 cable.go:90 t14 binOp
  refine J.end_ ?_
  refine C.keep (.cons 0 rfl (.cons 2 rfl (.cons 3 rfl (.cons 4 rfl .nil)))) ?_
  refine C.cond (.t 0 rfl) (fun c0 => ?_) (fun c0 => ?_)  -- cond 0
  ·
    exact absurd c0 (by simp)
  ·
    refine C.skip ?_
    refine X.go ?_
    refine C.keep (.cons 2 rfl (.cons 3 rfl .nil)) ?_
    refine C.seq ?_
    refine C.seq ?_
    refine C.reg ?_
    refine J.q rfl rfl rfl rfl (Q.move (.t 0 rfl)) ?_  -- 4:0 cable.go:93 t16 move
    refine J.q rfl rfl rfl rfl (Q.move (.t 2 rfl)) ?_  -- 4:1 cable.go:93 t17 move
    refine J.callV rfl rfl rfl rfl (run_static Try.call30 .f (.cons (.t 1 rfl) (.cons (.t 0 rfl) .nil)) rfl) (fun w hA => has_calls w c _ cc t.p t.q k (hA.ok (r := bx t.p 82 (c.tcells (some ⟨b, o, none⟩) cc t.q)) 1 rfl)) ?_  -- 4:2 cable.go:93 t18 call
    refine J.q rfl rfl rfl rfl (Q.not_ (.t 0 rfl)) ?_  -- 4:3 cable.go:93 t19 unOp
    refine J.end_ ?_
    refine C.keep (.cons 0 rfl (.cons 4 rfl (.cons 5 rfl .nil))) ?_
    refine C.cond (.t 0 rfl) (fun c1 => ?_) (fun c1 => ?_)  -- cond 1
    ·
      exact absurd c1 (by simp [h0, h1])
    ·
      refine C.skip ?_
      refine X.go ?_
      refine C.keep (.cons 1 rfl (.cons 2 rfl .nil)) ?_
      refine C.seq ?_
      refine C.reg ?_
      refine J.q rfl rfl rfl rfl (Q.move (.t 0 rfl)) ?_  -- 6:0 cable.go:96 t20 move
      refine J.q rfl rfl rfl rfl (Q.move (.t 2 rfl)) ?_  -- 6:1 cable.go:96 t21 move
      refine J.callN rfl rfl rfl rfl (run_static Try.call27 .f (.cons (.t 1 rfl) (.cons (.t 0 rfl) .nil)) rfl) (fun w hA => up_calls w t.p k) ?_  -- 6:2 cable.go:96 t22 call
      intro x2 _
      refine J.callU rfl rfl rfl rfl (run_static Try.call31 .f (.cons (.t 0 rfl) .nil) rfl) (fun _ => .here) (fun w hA => CollectN_calls (fun x : Int => x) 49 [.pointer (some ⟨x2.1, 0, none⟩), .pointer (some ⟨x2.2, 0, none⟩)] Try.call49 _ _ _ (needR c (some ⟨b, o, none⟩) cc t.p t.q) (Iter.toN (xs := path c k) (ev := fun x => [I64 x]) (up_iter c b o cc t.p t.q x2.1 x2.2 k hF h1)) (fun i v hv => by have := (List.getElem?_eq_some_iff.1 hv.2).1; have := path_length hF (k := k) (by omega); omega) w (hA.okM (r := sep (bx x2.1 3 [I64 k]) (bx x2.2 57 [.pointer (some ⟨t.p, 0, none⟩)])) 0 rfl) (hA.ok (r := needR c (some ⟨b, o, none⟩) cc t.p t.q) 0 rfl) ((hA.imm _ (by simp)).2.2 _ (by simp))) ?_  -- 6:3 cable.go:96 t23 call
      intro s hs
      obtain ⟨⟨i, rfl, hsx⟩, hsn⟩ := hs
      refine J.q rfl rfl rfl rfl (Q.assign (.t 0 rfl)) ?_  -- 6:4 cable.go:96 t4 assign
      refine J.q rfl rfl rfl rfl (Q.assign .c) ?_  -- 6:5 cable.go:96 t5 assign
      refine J.end_ ?_
      refine C.keep (.cons 0 rfl (.cons 1 rfl .nil)) ?_
      refine C.ret ?_
      refine X.ret2 rfl 1 0 rfl rfl (fun w hA => ?_)
      exact PostN.of (X := Sl) s ⟨by rw [hsx]; simp, hsn⟩ (hA.to (by (repeat (first | exact PermL.same | refine PermL.cons (by (repeat (first | exact Pick.here | apply Pick.there)); done) ?_ | exact PermL.drop | refine PermL.skip ?_)); done))

end Go.Proofs
