/- The laws' own helpers beside goroutines that only leave: whether two lists are one (the law's own); two lists joined; a number picked. -/
import Derived.Test.YtdpagejckahkkaaSeqE
set_option linter.unusedSimpArgs false
set_option linter.unusedVariables false
namespace Go.Proofs.Ytdpagejckahkkaa.Net
open Go Go.Conc Go.RowKit

noncomputable def body17 : Code := Try.f17.body.getD .skip
noncomputable def L17 : Code := match body17 with | .seq _ (.seq _ (.seq (.seq _ (.block _ (.loop c))) _)) => c | _ => .skip
noncomputable def tail17 : Code := match body17 with | .seq _ (.seq _ (.seq _ c)) => c | _ => .skip

noncomputable def R17 : Code := match L17 with | .seq _ (.seq (.block _ c) _) => c | _ => .skip

section
variable {S : Loc → Prop} {cs : List Frame} {w : World} {X : (Loc → Prop) → Goroutine → World → Prop}


set_option maxRecDepth 100000 in
/-- 'a[i] != b[i]', whose order is drawn. -/
theorem same17_test (n i : Nat) (ad bd : Addr) (ca cb : Nat) (x y : Int) (hi : i < n) (hx : w.cell? (ad.add i) = some (num x)) (hy : w.cell? (bd.add i) = some (num y)) (hxS : ∀ z : Addr, z.block = ad.block → ¬ S (.cell z)) (hyS : ∀ z : Addr, z.block = bd.block → ¬ S (.cell z))
    (j2 j3 j6 j7 j8 j9 j10 j11 j12 j13 j14 j15 j16 j17 j18 j19 j20 j21 j22 j23 j24 j25 : Value) (d : Nat) : ∃ m, R17.wpC Try.prog true AtRel (DF S) 17 m (fun e a' w' => AtRel w w' ∧ ∃ r j17 j18 j19 j20 j21 j22 j23 j24 j25, ((e = .normal ∧ x = y) ∨ (e = .ret ∧ x ≠ y)) ∧ r = Value.bool false ∧ a' = { tmps := #[.slice (some ad) n ca, .slice (some bd) n cb, j2, j3, r, num i, j6, j7, j8, j9, j10, j11, j12, j13, j14, j15, j16, j17, j18, j19, j20, j21, j22, j23, j24, j25], defers := [] })
      ⟨#[.slice (some ad) n ca, .slice (some bd) n cb, j2, j3, .bool false, num i, j6, j7, j8, j9, j10, j11, j12, j13, j14, j15, j16, j17, j18, j19, j20, j21, j22, j23, j24, j25], []⟩ (w.at d) := by
  have hi3 : (i : Int) < (n : Int) := by omega
  have hF : AtRel w (w.at d) := ⟨d, rfl⟩
  simp only [R17, L17, body17, Try.f17, Option.getD_some, num] at hx hy ⊢
  co_apply Exists.intro
  co_apply wpC_seq (termsF S)
  co_held (termsF S) (drawF S) ownDraw (AtRel w) at_rl hF
  co_take 0 (termsF S) at_rl hF hw (skip) (co_quiet (termsF S))
  co_take 1 (termsF S) at_rl hF hw (skip) (co_quiet (termsF S))
  co_take 2 (termsF S) at_rl hF hw (skip) (co_still (termsF S))
  co_take 3 (termsF S) at_rl hF hw (obtain ⟨dd, hdd⟩ := hw; subst hdd) (co_evs (exact evF_cell _ _ (hxS _ (addBlk' _ _))))
  co_take 4 (termsF S) at_rl hF hw (skip) (co_quiet (termsF S))
  co_take 5 (termsF S) at_rl hF hw (skip) (co_quiet (termsF S))
  co_take 6 (termsF S) at_rl hF hw (skip) (co_still (termsF S))
  co_take 7 (termsF S) at_rl hF hw (obtain ⟨dd, hdd⟩ := hw; subst hdd) (co_evs (exact evF_cell _ _ (hyS _ (addBlk' _ _))))
  co_take 8 (termsF S) at_rl hF hw (skip) (co_quiet (termsF S))
  co_done
  co_split (termsF S) (x != y)
  · intro hne
    have hne : x ≠ y := by simpa using hne
    co_go (termsF S) at_rl hF (co_quiet (termsF S))
    exact ⟨hF, _, _, _, _, _, _, _, _, _, _, .inr (by simp [hne]), rfl, rfl⟩
  · intro he
    have he : x = y := by simpa using he
    co_go (termsF S) at_rl hF (co_quiet (termsF S))
    exact ⟨hF, _, _, _, _, _, _, _, _, _, _, .inl (by simp [he]), rfl, rfl⟩

set_option maxRecDepth 100000 in
theorem same17_loop {a0 b0 : Option Addr} {ca cb n : Nat} {xs ys : List Int} (hxn : xs.length = n) (hyn : ys.length = n) (hx : ∀ (j : Nat) u, xs[j]? = some u → ∃ ad, a0 = some ad ∧ w.cell? (ad.add j) = some (num u)) (hy : ∀ (j : Nat) u, ys[j]? = some u → ∃ ad, b0 = some ad ∧ w.cell? (ad.add j) = some (num u))
    (hxS : ∀ ad, a0 = some ad → ∀ x : Addr, x.block = ad.block → ¬ S (.cell x)) (hyS : ∀ ad, b0 = some ad → ∀ x : Addr, x.block = ad.block → ¬ S (.cell x)) (hmax : n ≤ 4611686018427387904)
    (h : ∀ (res : Bool) T todo d, res = decide (xs = ys) → (∀ fn : Func, fn.results = #[.tmp 4] → ResultsC Try.prog fn T (.bool res)) → Reach Try.prog S (G { (base 17).at ⟨T, []⟩ todo with mode := .returning } cs) (w.at d) X) :
    ∀ (k i : Nat), i + k = n → xs.take i = ys.take i → ∀ (j2 j3 j6 j7 j8 j9 j10 j11 j12 j13 j14 j15 j16 j17 j18 j19 j20 j21 j22 j23 j24 j25 : Value) (d : Nat),
    Reach Try.prog S (G ((base 17).at ⟨#[.slice a0 n ca, .slice b0 n cb, j2, j3, .bool false, num i, j6, j7, j8, j9, j10, j11, j12, j13, j14, j15, j16, j17, j18, j19, j20, j21, j22, j23, j24, j25], []⟩ [.code L17, .inLoop L17, .inBlock 0, .code tail17]) cs) (w.at d) X := by
  intro k
  induction k with
  | zero =>
    intro i hi heq j2 j3 j6 j7 j8 j9 j10 j11 j12 j13 j14 j15 j16 j17 j18 j19 j20 j21 j22 j23 j24 j25 d
    have e : xs = ys := by rw [List.take_of_length_le (by omega), List.take_of_length_le (by omega)] at heq; exact heq
    have hi' : ¬ (i < n) := by omega
    clear hx hy hxn hyn
    simp only [L17, tail17, body17, Try.f17, Option.getD_some, num]
    repeat (first
      | refine r_end ?_ | refine r_skip ?_ | (refine r_region ?_; simp only [List.size_toArray, List.length_cons, List.length_nil, Nat.reduceAdd, Nat.zero_add, List.range, List.range.loop])
      | (refine r_cond (t := false) (by simp [Act.eval, hi']) ?_; simp only [if_true, if_false, Bool.false_eq_true, ↓reduceIte]; refine r_exit rfl ?_)
      | refine r_seq ?_ | refine r_block ?_ | refine r_inBlock ?_
      | (refine r_op rfl rfl (by decide) (fun w₁ h₁ K hK => ?_); obtain ⟨dd, hdd⟩ := h₁; subst hdd; (try simp only [at_at']); go_simp
         refine hK _ _ ⟨fun e he => (by have hm := mem_listed he; simp [go_sem, *] at hm), ?_⟩; clear hK K; try walk_nrm))
    refine r_ret ?_
    exact h true _ _ _ (by simp [e]) fun fn hf => resultsC_tmp hf _
  | succ k ih =>
    intro i hi heq j2 j3 j6 j7 j8 j9 j10 j11 j12 j13 j14 j15 j16 j17 j18 j19 j20 j21 j22 j23 j24 j25 d
    have hi' : i < n := by omega
    have hx' : i < xs.length := by omega
    have hy' : i < ys.length := by omega
    obtain ⟨ad, ha, hcx⟩ := hx i _ (List.getElem?_eq_getElem hx')
    obtain ⟨bd, hb, hcy⟩ := hy i _ (List.getElem?_eq_getElem hy')
    have ew : IntKind.i64.wrap ((i : Int) + 1) = ((i + 1 : Nat) : Int) := by rw [IntKind.wrap_i64]; omega
    have hstep := fun j2 j3 j6 j7 j8 j9 j10 j11 j12 j13 j14 j15 j16 j17 j18 j19 j20 j21 j22 j23 j24 j25 d => same17_test (S := S) n i ad bd ca cb _ _ hi' hcx hcy (hxS ad ha) (hyS bd hb) j2 j3 j6 j7 j8 j9 j10 j11 j12 j13 j14 j15 j16 j17 j18 j19 j20 j21 j22 j23 j24 j25 d
    have hcase : xs[i] = ys[i] → xs.take (i + 1) = ys.take (i + 1) := fun e => by
      rw [List.take_add_one, List.take_add_one, heq, List.getElem?_eq_getElem hx', List.getElem?_eq_getElem hy', e]
    have hne : xs[i] ≠ ys[i] → xs ≠ ys := fun h e => h (by simp [e])
    clear hcx hcy hx hy hxn hyn
    generalize xs[i] = x at hstep hcase hne
    generalize ys[i] = y at hstep hcase hne
    subst ha hb
    simp only [R17, L17, tail17, body17, Try.f17, Option.getD_some, num] at ih hstep ⊢
    refine r_seq ?_
    refine r_seq ?_
    refine r_region ?_; simp only [List.size_toArray, List.length_cons, List.length_nil, Nat.reduceAdd, Nat.zero_add, List.range, List.range.loop]
    refine r_op rfl rfl (by decide) (fun w₁ h₁ K hK => ?_); obtain ⟨dd, hdd⟩ := h₁; subst hdd; (try simp only [at_at']); go_simp
    refine hK _ _ ⟨fun e he => (by have hm := mem_listed he; simp [go_sem, *] at hm), ?_⟩; clear hK K; try walk_nrm
    refine r_op rfl rfl (by decide) (fun w₁ h₁ K hK => ?_); obtain ⟨dd, hdd⟩ := h₁; subst hdd; (try simp only [at_at']); go_simp
    refine hK _ _ ⟨fun e he => (by have hm := mem_listed he; simp [go_sem, *] at hm), ?_⟩; clear hK K; try walk_nrm
    refine r_op rfl rfl (by decide) (fun w₁ h₁ K hK => ?_); obtain ⟨dd, hdd⟩ := h₁; subst hdd; (try simp only [at_at']); go_simp
    refine hK _ _ ⟨fun e he => (by have hm := mem_listed he; simp [go_sem, *] at hm), ?_⟩; clear hK K; try walk_nrm
    refine r_op rfl rfl (by decide) (fun w₁ h₁ K hK => ?_); obtain ⟨dd, hdd⟩ := h₁; subst hdd; (try simp only [at_at']); go_simp
    refine hK _ _ ⟨fun e he => (by have hm := mem_listed he; simp [go_sem, *] at hm), ?_⟩; clear hK K; try walk_nrm
    refine r_end ?_
    refine r_cond (t := true) (by simp [Act.eval, hi']) ?_; simp only [if_true, if_false, Bool.false_eq_true, ↓reduceIte]
    refine r_skip ?_
    refine r_seq ?_
    refine r_block ?_
    refine r_wpC (hstep _ _ _ _ _ _ _ _ _ _ _ _ _ _ _ _ _ _ _ _ _ _ _).choose_spec (by decide) ?_
    rintro e a' w' ⟨⟨d', rfl⟩, r, j17, j18, j19, j20, j21, j22, j23, j24, j25, (⟨rfl, hxy⟩ | ⟨rfl, hxy⟩), rfl, rfl⟩
    · refine .inl ⟨rfl, ?_⟩
      repeat (first
      | refine r_end ?_ | refine r_skip ?_ | (refine r_region ?_; simp only [List.size_toArray, List.length_cons, List.length_nil, Nat.reduceAdd, Nat.zero_add, List.range, List.range.loop])
      | refine r_seq ?_ | refine r_block ?_ | refine r_inBlock ?_
      | (refine r_op rfl rfl (by decide) (fun w₁ h₁ K hK => ?_); obtain ⟨dd, hdd⟩ := h₁; subst hdd; (try simp only [at_at']); go_simp
         refine hK _ _ ⟨fun e he => (by have hm := mem_listed he; simp [go_sem, *] at hm), ?_⟩; clear hK K; try walk_nrm))
      refine r_inLoop ?_
      exact ih (i + 1) (by omega) (hcase hxy) _ _ _ _ _ _ _ _ _ _ _ _ _ _ _ _ _ _ _ _ _ _ _
    · refine .inr ⟨rfl, fun todo => ?_⟩
      exact h false _ _ _ (by simp [hne hxy]) fun fn hf => resultsC_tmp hf _

/-- What same leaves. -/
def SamePost17 (S : Loc → Prop) (w : World) (xs ys : List Int) (S' : Loc → Prop) (v : Value) (w' : World) : Prop := S' = S ∧ v = .bool (decide (xs = ys)) ∧ AtRel w w'

set_option maxRecDepth 100000 in
set_option maxHeartbeats 2000000 in
/-- same. -/
theorem same17_calls {va vb : Value} {xs ys : List Int} (hx : IntsAt S w va xs) (hy : IntsAt S w vb ys) : CallsR Try.prog S 17 #[va, vb] w (SamePost17 S w xs ys) := by
  obtain ⟨a0, ca, rfl, hx, hxS, _, hxm⟩ := hx
  obtain ⟨b0, cb, rfl, hy, hyS, _, hym⟩ := hy
  refine CallsR.enter Try.func17 (by rfl) rfl fun cs => ?_
  generalize hxn : xs.length = n at hxm ⊢
  generalize hyn : ys.length = m at hym ⊢
  have fin : ∀ (res : Bool) T todo d, res = decide (xs = ys) → (∀ fn : Func, fn.results = #[.tmp 4] → ResultsC Try.prog fn T (.bool res)) → Reach Try.prog S (G { (base 17).at ⟨T, []⟩ todo with mode := .returning } cs) (w.at d)
      fun S' g w' => ∃ a' todo v, g = G { (base 17).at a' todo with mode := .returning } cs ∧ a'.defers = [] ∧ ResultsC Try.prog Try.f17 a'.tmps v ∧ SamePost17 S w xs ys S' v w' :=
    fun res T todo d hr hR => .here ⟨⟨T, []⟩, todo, _, rfl, rfl, hR _ rfl, rfl, by rw [hr], ⟨d, rfl⟩⟩
  by_cases hnm : n = m
  · subst hnm
    have loop := same17_loop (cs := cs) (ca := ca) (cb := cb) hxn hyn hx hy hxS hyS hxm fin n 0 (by omega) rfl
    clear fin hx hy hxn hyn
    simp only [L17, tail17, body17, Try.f17, Option.getD_some, Nat.reduceSub, Array.replicate_succ, Array.replicate_zero, List.push_toArray, List.append_toArray, List.nil_append, List.cons_append, List.size_toArray, List.length_cons, List.length_nil, Nat.reduceAdd, Nat.zero_add, num] at loop ⊢
    repeat (first
      | refine r_end ?_ | refine r_skip ?_ | (refine r_region ?_; simp only [List.size_toArray, List.length_cons, List.length_nil, Nat.reduceAdd, Nat.zero_add, List.range, List.range.loop])
      | (refine r_cond (t := false) (by simp [Act.eval]) ?_; simp only [if_true, if_false, Bool.false_eq_true, ↓reduceIte])
      | refine r_seq ?_ | refine r_block ?_ | refine r_inBlock ?_
      | (refine r_op rfl rfl (by decide) (fun w₁ h₁ K hK => ?_); obtain ⟨dd, hdd⟩ := h₁; subst hdd; (try simp only [at_at']); go_simp
         refine hK _ _ ⟨fun e he => (by have hm := mem_listed he; simp [go_sem, *] at hm), ?_⟩; clear hK K; try walk_nrm))
    refine r_loop ?_
    exact loop _ _ _ _ _ _ _ _ _ _ _ _ _ _ _ _ _ _ _ _ _ _ _
  · have hne : xs ≠ ys := fun e => hnm (by rw [← hxn, ← hyn, e])
    have fin := fun T todo d => fin false T todo d (by simp [hne])
    clear hx hy hxn hyn hxS hyS hxm hym hne
    simp only [body17, Try.f17, Option.getD_some, Nat.reduceSub, Array.replicate_succ, Array.replicate_zero, List.push_toArray, List.append_toArray, List.nil_append, List.cons_append, List.size_toArray, List.length_cons, List.length_nil, Nat.reduceAdd, Nat.zero_add] at fin ⊢
    repeat (first
      | refine r_end ?_ | refine r_skip ?_ | (refine r_region ?_; simp only [List.size_toArray, List.length_cons, List.length_nil, Nat.reduceAdd, Nat.zero_add, List.range, List.range.loop])
      | (refine r_cond (t := true) (by simp [Act.eval]; omega) ?_; simp only [if_true, if_false, Bool.false_eq_true, ↓reduceIte])
      | refine r_seq ?_ | refine r_block ?_ | refine r_inBlock ?_
      | (refine r_op rfl rfl (by decide) (fun w₁ h₁ K hK => ?_); obtain ⟨dd, hdd⟩ := h₁; subst hdd; (try simp only [at_at']); go_simp
         refine hK _ _ ⟨fun e he => (by have hm := mem_listed he; simp [go_sem] at hm), ?_⟩; clear hK K; try walk_nrm))
    refine r_ret ?_
    exact fin _ _ _ fun fn hf => resultsC_tmp hf _
end

/-- What joined leaves. -/
def JoinPost (S : Loc → Prop) (w : World) (xs ys : List Int) (S' : Loc → Prop) (v : Value) (w' : World) : Prop := S' = S ∧ w'.ownsRow w.heap.size 3 1 v (xs.length + ys.length) ((xs ++ ys).map num) ∧ w.grownBy w' none
set_option maxRecDepth 100000 in
set_option maxHeartbeats 2000000 in
/-- joined. -/
theorem joined_calls {S : Loc → Prop} {w : World} {va vb : Value} {xs ys : List Int} (hx : IntsAt S w va xs) (hy : IntsAt S w vb ys) (hb : (xs.length + ys.length) * 8 ≤ 140737488355328) (hS : ∀ z : Addr, w.heap.size ≤ z.block → ¬ S (.cell z)) : CallsR Try.prog S 16 #[va, vb] w (JoinPost S w xs ys) := by
  refine CallsR.enter Try.func16 (by rfl) rfl fun cs => ?_
  have fin : ∀ v w' T todo d, JoinPost S w xs ys S v w' → (∀ fn : Func, fn.results = #[.tmp 4] → ResultsC Try.prog fn T v) → Reach Try.prog S (G { (base 16).at ⟨T, []⟩ todo with mode := .returning } cs) (w'.at d)
      fun S' g w' => ∃ a' todo v, g = G { (base 16).at a' todo with mode := .returning } cs ∧ a'.defers = [] ∧ ResultsC Try.prog Try.f16 a'.tmps v ∧ JoinPost S w xs ys S' v w' :=
    fun v w' T todo d hp hR => .here ⟨⟨T, []⟩, todo, _, rfl, rfl, hR _ rfl, hp.1, hp.2.1, grown_at hp.2.2 d⟩
  have hy0 := hy
  obtain ⟨b0, cb, rfl, hyc, hyS, hyn, hym⟩ := hy
  simp only [Try.f16, Option.getD_some, Nat.reduceSub, Array.replicate_succ, Array.replicate_zero, List.push_toArray, List.append_toArray, List.nil_append, List.cons_append, List.size_toArray, List.length_cons, List.length_nil, Nat.reduceAdd, Nat.zero_add] at fin ⊢
  · repeat (first
      | refine r_end ?_ | refine r_skip ?_ | (refine r_region ?_; simp only [List.size_toArray, List.length_cons, List.length_nil, Nat.reduceAdd, Nat.zero_add, List.range, List.range.loop])
      | refine r_seq ?_
      | (refine r_op rfl rfl (by decide) (fun w₁ h₁ K hK => ?_); obtain ⟨dd, hdd⟩ := h₁; subst hdd; (try simp only [at_at']); go_simp
         refine hK _ _ ⟨fun e he => (by have hm := mem_listed he; simp [go_sem] at hm), ?_⟩; clear hK K; try walk_nrm))
    refine r_callx (ints_calls (w := w.at _) hx (by omega) hS) rfl rfl (by decide) rfl (by simp only [List.map_toArray, List.map_cons, List.map_nil]; rfl) (fun S' l w1 hp => ?_)
    obtain ⟨hS', hown, hgr, hsz⟩ := hp
    subst hS'
    have hgr : w.grownBy w1 none := ⟨hgr.os, hgr.tape, hgr.output, hgr.size, hgr.block⟩
    have hown : w1.ownsRow w.heap.size 3 1 l xs.length (xs.map num) := hown
    have hg1 := hgr.size
    try walk_nrm
    repeat (first
      | refine r_end ?_ | refine r_skip ?_ | (refine r_region ?_; simp only [List.size_toArray, List.length_cons, List.length_nil, Nat.reduceAdd, Nat.zero_add, List.range, List.range.loop])
      | refine r_seq ?_
      | (refine r_op rfl rfl (by decide) (fun w₁ h₁ K hK => ?_); obtain ⟨dd, hdd⟩ := h₁; subst hdd; (try simp only [at_at']); go_simp
         refine hK _ _ ⟨fun e he => (by have hm := mem_listed he; simp [go_sem] at hm), ?_⟩; clear hK K; try walk_nrm))
    cases b0 with
    | none =>
      have e : ys = [] := by
        cases ys with
        | nil => rfl
        | cons u r => obtain ⟨_, h, _⟩ := hyc 0 u rfl; cases h
      subst e
      obtain rfl := hyn rfl
      refine r_op rfl rfl (by decide) (fun w₁ h₁ K hK => ?_)
      obtain ⟨dd, hdd⟩ := h₁
      subst hdd
      obtain ⟨hr, he⟩ := append_none (w1.at dd) w.heap.size 22 l xs.length (xs.map num) hown
      refine uponK_append (.tmp 8) (.tmp 9) 22 rfl rfl rfl hr (hK _ _ ⟨fun e h => ?_, ?_⟩)
      · have hm' := mem_listed h
        rw [events_append_op (.tmp 8) (.tmp 9) 22 rfl rfl rfl] at hm'
        have hm2 : e ∈ (Builtin.append_ #[22, 22] 22 #[l, .slice none 0 0]).events Try.prog (w1.at dd) #[] := hm'
        rw [he] at hm2
        simp at hm2
      · clear hK K
        try walk_nrm
        repeat (first
      | refine r_end ?_ | refine r_skip ?_ | (refine r_region ?_; simp only [List.size_toArray, List.length_cons, List.length_nil, Nat.reduceAdd, Nat.zero_add, List.range, List.range.loop])
      | refine r_seq ?_
      | (refine r_op rfl rfl (by decide) (fun w₁ h₁ K hK => ?_); obtain ⟨dd, hdd⟩ := h₁; subst hdd; (try simp only [at_at']); go_simp
         refine hK _ _ ⟨fun e he => (by have hm := mem_listed he; simp [go_sem] at hm), ?_⟩; clear hK K; try walk_nrm))
        refine r_ret ?_
        exact fin _ w1 _ _ _ ⟨rfl, by simpa using hown, hgr⟩ fun fn hf => resultsC_tmp hf _
    | some ad =>
      refine r_append (base := w.heap.size) (xs := xs.map num) (.tmp 8) (.tmp 9) rfl rfl (by decide) rfl rfl rfl hown (news := ys.map num) (by simp) (fun j u hj => ?_) (fun u hu => ?_) (by omega) (by show _ ≤ w1.heap.size; omega) (hyS ad rfl) hS (fun v' w' hown' hgrow hmost _ => ?_)
      · simp only [List.getElem?_map, Option.map_eq_some_iff] at hj
        obtain ⟨x, hj, rfl⟩ := hj
        obtain ⟨ad', h', hc⟩ := hyc j x hj
        cases h'
        exact hgr.cell hc (by simp)
      · obtain ⟨x, _, rfl⟩ := List.mem_map.1 hu
        rfl
      · have hk : w.grownBy w' none := ⟨hgrow.os.trans hgr.os, hgrow.tape.trans hgr.tape, hgrow.output.trans hgr.output, Nat.le_trans hg1 hgrow.size, fun k hk _ => (hgrow.block k (by show k < w1.heap.size; omega) (fun e => by have := (hown.lt k e.symm).1; omega)).trans (hgr.block k hk (by simp))⟩
        clear hgrow hgr hown
        try walk_nrm
        repeat (first
      | refine r_end ?_ | refine r_skip ?_ | (refine r_region ?_; simp only [List.size_toArray, List.length_cons, List.length_nil, Nat.reduceAdd, Nat.zero_add, List.range, List.range.loop])
      | refine r_seq ?_
      | (refine r_op rfl rfl (by decide) (fun w₁ h₁ K hK => ?_); obtain ⟨dd, hdd⟩ := h₁; subst hdd; (try simp only [at_at']); go_simp
         refine hK _ _ ⟨fun e he => (by have hm := mem_listed he; simp [go_sem] at hm), ?_⟩; clear hK K; try walk_nrm))
        refine r_ret ?_
        exact fin _ w' _ _ _ ⟨rfl, by simpa using hown', hk⟩ fun fn hf => resultsC_tmp hf _
end Go.Proofs.Ytdpagejckahkkaa.Net
