/- The cable's functions as the printed walks call them: a plain function with checks for each, and its contract. -/
import Derived.Test.YtafghgomhjeabaaC6
import Derived.Test.YtafghgomhjeabaaC4
set_option linter.unusedVariables false
set_option linter.unusedSimpArgs false
namespace Go.Proofs
open Go Go.J Go.RowKit Go.Cab
set_option linter.unusedSimpArgs false
set_option linter.unusedVariables false
open Classical in
/-- the order in which nodes are taken -/
noncomputable def orderOf (ranks : List Int) : List Int := if h : ∃ ys, IsOrder ranks ys then h.choose else []
theorem orderOf_eq {ranks ys : List Int} (h : IsOrder ranks ys) : orderOf ranks = ys := by
  have hex : ∃ ys, IsOrder ranks ys := ⟨ys, h⟩
  unfold orderOf
  rw [dif_pos hex]
  exact hex.choose_spec.unique h
theorem shareTo_len (c : Cable) (q ys : List Int) : (shareTo c q ys).1.length = c.nodes.length := by
  have key : ∀ (ys : List Int) (s : List Int × List Int), (ys.foldl (shareStep c q) s).1.length = s.1.length := by
    intro ys
    induction ys with
    | nil => intro s; rfl
    | cons y ys ih => intro s; rw [List.foldl_cons, ih]; simp [shareStep]
  rw [shareTo, key]; simp
noncomputable def shareV (c : Cable) (q ranks : List Int) : List Int × Int :=
  if c.check ≠ 0 then ([], c.check) else if ranks.length ≠ c.nodes.length then ([], 17) else if ampsV c.nodes.length q ≠ 0 then ([], ampsV c.nodes.length q) else ((shareTo c q (orderOf ranks)).1, 0)
noncomputable def F_Share (c : Cable) (q ranks : List Int) : Option (List Int × Int) := some (shareV c q ranks)
abbrev R1 (x : Option Addr × Nat) (l : List Int) (e : Nat) : Res := rowG e 1 x.1 l.length x.2 (l.flatMap enI)
theorem Share_calls (w : World) (ca : Option Addr) (cc : Nat) (c : Cable) (qa : Option Addr) (qc : Nat) (q : List Int) (ra : Option Addr) (rc : Nat) (ranks : List Int) (co : (rowO ca 8 Nd.enc c.nodes).ok w) (cl : c.nodes.length ≤ cc) (qo : (rowO qa 1 enI q).ok w) (ql : q.length ≤ qc) (ro : (rowO ra 1 enI ranks).ok w) (rl : ranks.length ≤ rc) {r : List Int × Int} (H : F_Share c q ranks = some r) :
    Calls Try.prog 9 [.agg (c.cells ca cc).toArray, .slice qa q.length qc, .slice ra ranks.length rc].toArray w (PostN (fun _ : Option Addr × Nat => True) (fun x => .tuple [.slice x.1 r.1.length x.2, .int .i64 r.2].toArray) (fun x => rowG 2 1 x.1 r.1.length x.2 (r.1.flatMap enI)) w) := by
  obtain rfl := Option.some.inj H
  have nil : ∀ (e : Int), ∀ {en w'}, PostV (.tuple [.slice none 0 0, .int .i64 e].toArray) w en w' → PostN (fun _ : Option Addr × Nat => True) (fun x => .tuple [.slice x.1 (([] : List Int), e).1.length x.2, .int .i64 (([] : List Int), e).2].toArray) (fun x => rowG 2 1 x.1 (([] : List Int), e).1.length x.2 ((([] : List Int), e).1.flatMap enI)) w en w' :=
    fun e en w' h => PostV.toN (none, 0) trivial rfl (fun w => rowG_nil w) (fun b => rowG_nilU b) h
  by_cases h : c.check = 0
  · by_cases hn : ranks.length = c.nodes.length
    · by_cases ha : ampsV c.nodes.length q = 0
      · refine (Share_ok w c ca cc co qa qc q qo ra rc ranks ro cl h hn ha).mono fun e w' hp => ?_
        have e1 : shareV c q ranks = ((shareTo c q (orderOf ranks)).1, 0) := by simp [shareV, h, hn, ha]
        rw [e1]
        refine PostN.map (fun x => (some ⟨x.1, 0, none⟩, c.nodes.length)) (fun x hx => ⟨trivial, ?_, ?_, ?_⟩) hp
        · simp only [shareTo_len]
        · intro w hb
          rw [orderOf_eq hx]
          have := bx_rowG (sz := 1) (enc := enI) hb (fun _ => rfl) (by rw [shareTo_len]; have := (Fit.of h).le; simp [maxLen]; omega)
          simp only [shareTo_len] at this ⊢
          exact this
        · intro b hb
          simp only [rowG, Value.ownBlock, Option.some.injEq] at hb
          exact hb
      · have e1 : shareV c q ranks = ([], ampsV c.nodes.length q) := by simp [shareV, h, hn, ha]
        rw [e1]
        exact (Share_amps w c ca cc co qa qc q qo ra rc ranks ro cl h hn ha).mono fun e w' hp => nil _ hp
    · have e1 : shareV c q ranks = ([], 17) := by simp [shareV, h, hn]
      rw [e1]
      exact (Share_ranks w c ca cc co qa qc q qo ra rc ranks ro cl h hn).mono fun e w' hp => nil _ hp
  · have e1 : shareV c q ranks = ([], c.check) := by simp [shareV, h]
    rw [e1]
    exact (Share_bad w c ca cc co qa qc q qo ra rc ranks ro h).mono fun e w' hp => nil _ hp
def F_CheckShare (c : Cable) (g : List Int) : Option (Int × Int) := some (checkShareV c g)
theorem CheckShare_calls (w : World) (ca : Option Addr) (cc : Nat) (c : Cable) (ga : Option Addr) (gc : Nat) (g : List Int) (co : (rowO ca 8 Nd.enc c.nodes).ok w) (cl : c.nodes.length ≤ cc) (go : (rowO ga 1 enI g).ok w) (gl : g.length ≤ gc) {r : Int × Int} (H : F_CheckShare c g = some r) :
    Calls Try.prog 13 [.agg (c.cells ca cc).toArray, .slice ga g.length gc].toArray w (PostV (.tuple [.int .i64 r.1, .int .i64 r.2].toArray) w) := by
  obtain rfl := Option.some.inj H
  by_cases h : c.check = 0
  · exact CheckShare_ok w c ca cc co ga gc g go cl h
  · rw [show checkShareV c g = (0, c.check) by simp [checkShareV, h]]
    exact CheckShare_bad w c ca cc co ga gc g go h
def F_Path (c : Cable) (k : Int) : Option (List Int × Int) := ck (c.check = 0 ∧ 0 ≤ k ∧ k < c.nodes.length) (some (path c k, 0))
theorem slN {w : World} {xs : List Int} {e : Int} {en : Ending} {w' : World} (h : PostN (fun s : Sl => s.xs = xs ∧ s.n = s.xs.length) (fun s => .tuple [s.val, .int .i64 e].toArray) (fun s => s.grow) w en w') :
    PostN (fun _ : Option Addr × Nat => True) (fun x => .tuple [.slice x.1 (xs, e).1.length x.2, .int .i64 (xs, e).2].toArray) (fun x => rowG 3 1 x.1 (xs, e).1.length x.2 ((xs, e).1.flatMap enI)) w en w' := by
  refine PostN.map (fun s => (s.a, s.c)) (fun s hs => ⟨trivial, ?_, ?_, ?_⟩) h
  · simp only [Sl.val, hs.2, hs.1]
  · intro w hb; simp only [Sl.grow, hs.2, hs.1, ← flat_enI] at hb; exact hb
  · intro b hb; simp only [Sl.grow, hs.2, hs.1]; exact hb
theorem Path_calls (w : World) (ca : Option Addr) (cc : Nat) (c : Cable) (k : Int) (co : (rowO ca 8 Nd.enc c.nodes).ok w) (cl : c.nodes.length ≤ cc) {r : List Int × Int} (H : F_Path c k = some r) :
    Calls Try.prog 16 [.agg (c.cells ca cc).toArray, .int .i64 k].toArray w (PostN (fun _ : Option Addr × Nat => True) (fun x => .tuple [.slice x.1 r.1.length x.2, .int .i64 r.2].toArray) (fun x => rowG 3 1 x.1 r.1.length x.2 (r.1.flatMap enI)) w) := by
  obtain ⟨⟨h, h0, h1⟩, H⟩ := ck_some H
  obtain rfl := Option.some.inj H
  exact (Path_ok w c ca cc co cl h k h0 h1).mono fun e w' hp => slN hp
def F_Subtree (c : Cable) (k : Int) : Option (List Int × Int) := ck (c.check = 0 ∧ 0 ≤ k ∧ k < c.nodes.length) (some (subtree c k, 0))
theorem Subtree_calls (w : World) (ca : Option Addr) (cc : Nat) (c : Cable) (k : Int) (co : (rowO ca 8 Nd.enc c.nodes).ok w) (cl : c.nodes.length ≤ cc) {r : List Int × Int} (H : F_Subtree c k = some r) :
    Calls Try.prog 17 [.agg (c.cells ca cc).toArray, .int .i64 k].toArray w (PostN (fun _ : Option Addr × Nat => True) (fun x => .tuple [.slice x.1 r.1.length x.2, .int .i64 r.2].toArray) (fun x => rowG 3 1 x.1 r.1.length x.2 (r.1.flatMap enI)) w) := by
  obtain ⟨⟨h, h0, h1⟩, H⟩ := ck_some H
  obtain rfl := Option.some.inj H
  exact (Subtree_ok w c ca cc co cl h k h0 h1).mono fun e w' hp => slN hp
def F_Lost (c : Cable) (f s : List Int) : Option (List Int × Int) := ck (c.check = 0 ∧ stuckV c s = 0 ∧ f.length ≤ 60 ∧ 0 < f.length ∧ ∀ x ∈ f, 1 ≤ x ∧ x < c.nodes.length) (some (lostV c f s, 0))
theorem Lost_calls (w : World) (ca : Option Addr) (cc : Nat) (c : Cable) (fa : Option Addr) (fc : Nat) (f : List Int) (sa : Option Addr) (sc : Nat) (s : List Int) (co : (rowO ca 8 Nd.enc c.nodes).ok w) (cl : c.nodes.length ≤ cc) (fo : (rowO fa 1 enI f).ok w) (fl : f.length ≤ fc) (so : (rowO sa 1 enI s).ok w) (sl : s.length ≤ sc) {r : List Int × Int} (H : F_Lost c f s = some r) :
    Calls Try.prog 21 [.agg (c.cells ca cc).toArray, .slice fa f.length fc, .slice sa s.length sc].toArray w (PostN (fun _ : Option Addr × Nat => True) (fun x => .tuple [.slice x.1 r.1.length x.2, .int .i64 r.2].toArray) (fun x => rowG 3 1 x.1 r.1.length x.2 (r.1.flatMap enI)) w) := by
  obtain ⟨⟨h, h0, h1, h2, h3⟩, H⟩ := ck_some H
  obtain rfl := Option.some.inj H
  exact (Lost_ok w c ca cc co cl h fa fc f fo sa sc s so h0 h1 h2 h3).mono fun e w' hp => slN hp
theorem voltUpto_length (c : Cable) : ∀ k, (voltUpto c k).length = c.nodes.length
  | 0 => by simp [voltUpto]
  | 1 => by simp [voltUpto]
  | k + 2 => by
    have := voltUpto_length c (k + 1)
    simp only [voltUpto, voltStep]
    split <;> simp [this]
def F_Voltages (c : Cable) : Option (List Span × Int) := ck (c.check = 0) (some (voltages c, 0))
theorem Voltages_calls (w : World) (ca : Option Addr) (cc : Nat) (c : Cable) (co : (rowO ca 8 Nd.enc c.nodes).ok w) (cl : c.nodes.length ≤ cc) {r : List Span × Int} (H : F_Voltages c = some r) :
    Calls Try.prog 19 [.agg (c.cells ca cc).toArray].toArray w (PostN (fun _ : Option Addr × Nat => True) (fun x => .tuple [.slice x.1 r.1.length x.2, .int .i64 r.2].toArray) (fun x => rowG 23 2 x.1 r.1.length x.2 (r.1.flatMap Span.enc)) w) := by
  obtain ⟨h, H⟩ := ck_some H
  obtain rfl := Option.some.inj H
  have hl : (voltages c).length = c.nodes.length := voltUpto_length c _
  refine (Voltages_ok w c ca cc co cl h).mono fun e w' hp => PostN.map (fun x => (some ⟨x, 0, none⟩, c.nodes.length)) (fun x _ => ⟨trivial, ?_, ?_, ?_⟩) hp
  · simp only [hl]
  · intro w hb
    have := bx_rowG (sz := 2) (enc := Span.enc) hb (fun _ => rfl) (by rw [hl]; have := (Fit.of h).le; simp [maxLen]; omega)
    simp only [hl] at this ⊢
    exact this
  · intro b hb
    simp only [rowG, Value.ownBlock, Option.some.injEq] at hb
    exact hb
end Go.Proofs
