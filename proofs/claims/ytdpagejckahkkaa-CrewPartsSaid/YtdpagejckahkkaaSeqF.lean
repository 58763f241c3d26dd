/- The document's own Relay beside goroutines that only leave: each value and the sum of what is added, in a row of its own. -/
import Derived.Test.YtdpagejckahkkaaSeqB
set_option linter.unusedSimpArgs false
set_option linter.unusedVariables false
namespace Go.Proofs.Ytdpagejckahkkaa.Net
open Go Go.Conc Go.RowKit

noncomputable def body9 : Code := Try.f9.body.getD .skip
noncomputable def tail9 : Nat → Code
  | 0 => body9
  | n + 1 => match tail9 n with | .seq _ r => r | _ => .skip
noncomputable def L9a : Code := match tail9 3 with | .seq (.seq _ (.block _ (.loop c))) _ => c | _ => .skip
noncomputable def L9b : Code := match tail9 5 with | .seq (.seq _ (.block _ (.loop c))) _ => c | _ => .skip
/-- The sum, as it wraps. -/
def sumL (s : Int) (ys : List Int) : Int := ys.foldl (fun s a => IntKind.wrap .i64 (s + a)) s
/-- What the document's Relay gives. -/
def refL (vs ys : List Int) : List Int := if 64 < ys.length then [] else vs.map fun v => IntKind.wrap .i64 (v + sumL 0 ys)

section
variable {S : Loc → Prop} {cs : List Frame} {X : (Loc → Prop) → Goroutine → World → Prop} {a0 b0 : Option Addr} {ca cb n m : Nat}


set_option maxRecDepth 100000 in
set_option maxHeartbeats 2000000 in
theorem ref_loop1 {w : World} (hmax : m ≤ 4611686018427387904) (hbS : ∀ ad, b0 = some ad → ∀ x : Addr, x.block = ad.block → ¬ S (.cell x)) : ∀ (rest : List Int) (i : Nat) (s : Int), i + rest.length = m → (∀ (j : Nat) u, rest[j]? = some u → ∃ ad, b0 = some ad ∧ w.cell? (ad.add (i + j)) = some (num u)) →
    (h : ∀ j2 j3 j6 j7 j8 j9 j10 j11 j12 j13 j14 j15 j16 j17 j18 j19 j20 j21 j22 j23 j24 j25 j26 j27 j28 j29 j30 j31 j32 j33 j34 j35 j36 j37 j38 j39 d, Reach Try.prog S (G ((base 9).at ⟨#[.slice a0 n ca, .slice b0 m cb, j2, j3, .slice none 0 0, num (sumL s rest), j6, j7, j8, j9, j10, j11, j12, j13, j14, j15, j16, j17, j18, j19, j20, j21, j22, j23, j24, j25, j26, j27, j28, j29, j30, j31, j32, j33, j34, j35, j36, j37, j38, j39], []⟩ [.code (tail9 4)]) cs) (w.at d) X) →
    ∀ (j2 j3 j7 j8 j9 j10 j11 j12 j13 j14 j15 j16 j17 j18 j19 j20 j21 j22 j23 j24 j25 j26 j27 j28 j29 j30 j31 j32 j33 j34 j35 j36 j37 j38 j39 : Value) (d : Nat), Reach Try.prog S (G ((base 9).at ⟨#[.slice a0 n ca, .slice b0 m cb, j2, j3, .slice none 0 0, num s, num i, j7, j8, j9, j10, j11, j12, j13, j14, j15, j16, j17, j18, j19, j20, j21, j22, j23, j24, j25, j26, j27, j28, j29, j30, j31, j32, j33, j34, j35, j36, j37, j38, j39], []⟩ [.code L9a, .inLoop L9a, .inBlock 0, .code (tail9 4)]) cs) (w.at d) X := by
  intro rest
  induction rest with
  | nil =>
    intro i s hi hr h j2 j3 j7 j8 j9 j10 j11 j12 j13 j14 j15 j16 j17 j18 j19 j20 j21 j22 j23 j24 j25 j26 j27 j28 j29 j30 j31 j32 j33 j34 j35 j36 j37 j38 j39 d
    have hi' : ¬ (i < m) := by simp at hi; omega
    simp only [L9a, tail9, body9, Try.f9, Option.getD_some, num, sumL, List.foldl_nil] at h ⊢
    refine r_seq ?_
    refine r_seq ?_
    refine r_region ?_; simp only [List.size_toArray, List.length_cons, List.length_nil, Nat.reduceAdd, Nat.zero_add, List.range, List.range.loop]
    iterate 4 (first
      | (refine r_op rfl rfl (by decide) (fun w₁ h₁ K hK => ?_); obtain ⟨dd, hdd⟩ := h₁; subst hdd; (try simp only [at_at']); go_simp
         refine hK _ _ ⟨fun e he => (by have hm := mem_listed he; simp [go_sem] at hm), ?_⟩; clear hK K; try walk_nrm))
    refine r_end ?_
    refine r_cond (t := false) (by simp [Act.eval, hi']) ?_; simp only [if_true, if_false, Bool.false_eq_true, ↓reduceIte]
    refine r_exit rfl ?_
    exact h _ _ _ _ _ _ _ _ _ _ _ _ _ _ _ _ _ _ _ _ _ _ _ _ _ _ _ _ _ _ _ _ _ _ _ _ _
  | cons u rest ih =>
    intro i s hi hr h j2 j3 j7 j8 j9 j10 j11 j12 j13 j14 j15 j16 j17 j18 j19 j20 j21 j22 j23 j24 j25 j26 j27 j28 j29 j30 j31 j32 j33 j34 j35 j36 j37 j38 j39 d
    have hi' : i < m := by simp at hi; omega
    have hi3 : (i : Int) < (m : Int) := by omega
    have ew : IntKind.i64.wrap ((i : Int) + 1) = ((i + 1 : Nat) : Int) := by rw [IntKind.wrap_i64]; omega
    obtain ⟨ad, ha, hcx⟩ := hr 0 u rfl
    have hS := hbS ad ha
    have ih := ih (i + 1) (IntKind.wrap .i64 (s + u)) (by simp at hi; omega) (fun j v hj => by
      obtain ⟨ad', h', hc⟩ := hr (j + 1) v (by simpa using hj)
      exact ⟨ad', h', by rw [show i + 1 + j = i + (j + 1) by omega]; exact hc⟩) h
    clear hr h hbS
    subst ha
    simp only [L9a, tail9, body9, Try.f9, Option.getD_some, num, Nat.add_zero] at ih hcx ⊢
    repeat (first
      | refine r_end ?_ | refine r_skip ?_ | (refine r_region ?_; simp only [List.size_toArray, List.length_cons, List.length_nil, Nat.reduceAdd, Nat.zero_add, List.range, List.range.loop])
      | (refine r_cond (t := true) (by simp [Act.eval, hi']) ?_; simp only [if_true, if_false, Bool.false_eq_true, ↓reduceIte])
      | refine r_seq ?_ | refine r_block ?_ | refine r_inBlock ?_
      | (refine r_op rfl rfl (by decide) (fun w₁ h₁ K hK => ?_); obtain ⟨dd, hdd⟩ := h₁; subst hdd; (try simp only [at_at', alloc_at']); go_simp
         refine hK _ _ ⟨fun e he => (by have hm := mem_listed he; simp [go_sem, *] at hm; try (subst hm; exact evF_cell _ _ (hS _ (addBlk' _ _)))), ?_⟩; clear hK K; try walk_nrm))
    refine r_inLoop ?_
    exact ih _ _ _ _ _ _ _ _ _ _ _ _ _ _ _ _ _ _ _ _ _ _ _ _ _ _ _ _ _ _ _ _ _ _ _ _

/-- What holds while the answer is made. -/
structure Made (W0 : World) (out : Value) (xs : List Int) (w : World) : Prop where
  own : w.ownsRow W0.heap.size 3 1 out xs.length (xs.map num)
  kept : W0.grownBy w none
theorem Made.next {W0 w w₃ : World} {out out' : Value} {xs : List Int} {x : Int} {o : Obj} (h : Made W0 out xs w) (ho : w₃.ownsRow W0.heap.size 3 1 out' (xs.length + 1) (xs.map num ++ [num x])) (hg : (w.alloc o).grownBy w₃ out.ownBlock) : Made W0 out' (xs ++ [x]) w₃ := by
  have hs := h.kept.size
  refine ⟨by simpa using ho, ⟨hg.os.trans h.kept.os, hg.tape.trans h.kept.tape, hg.output.trans h.kept.output, Nat.le_trans hs (Nat.le_trans (by simp) hg.size), fun k hk _ => ?_⟩⟩
  rw [hg.block k (by simp; omega) fun e => by have := (h.own.lt k e.symm).1; omega, Below.heap_alloc _ _ _ (by omega)]
  exact h.kept.block k hk (by simp)

set_option maxRecDepth 100000 in
set_option maxHeartbeats 4000000 in
theorem ref_loop2 {W0 : World} {s : Int} {L : List Int} (hmax : n * 8 ≤ 140737488355328) (haS : ∀ ad, a0 = some ad → ∀ x : Addr, x.block = ad.block → ¬ S (.cell x)) (hS : ∀ z : Addr, W0.heap.size ≤ z.block → ¬ S (.cell z))
    (h : ∀ w' out' T todo d, Made W0 out' L w' → (∀ fn : Func, fn.results = #[.tmp 4] → ResultsC Try.prog fn T out') → Reach Try.prog S (G { (base 9).at ⟨T, []⟩ todo with mode := .returning } cs) (w'.at d) X) :
    ∀ (rest : List Int) (i : Nat) (w : World) (out : Value) (xs : List Int), i + rest.length = n → xs.length = i → L = xs ++ rest.map (fun v => IntKind.wrap .i64 (v + s)) → (∀ (j : Nat) u, rest[j]? = some u → ∃ ad, a0 = some ad ∧ W0.cell? (ad.add (i + j)) = some (num u)) → Made W0 out xs w →
    ∀ (j2 j3 j6 j9 j10 j11 j12 j13 j14 j15 j16 j17 j18 j19 j20 j21 j22 j23 j24 j25 j26 j27 j28 j29 j30 j31 j32 j33 j34 j35 j36 j37 j38 j39 : Value) (d : Nat), Reach Try.prog S (G ((base 9).at ⟨#[.slice a0 n ca, .slice b0 m cb, j2, j3, .slice none 0 0, num s, j6, out, num i, j9, j10, j11, j12, j13, j14, j15, j16, j17, j18, j19, j20, j21, j22, j23, j24, j25, j26, j27, j28, j29, j30, j31, j32, j33, j34, j35, j36, j37, j38, j39], []⟩ [.code L9b, .inLoop L9b, .inBlock 2, .code (tail9 6)]) cs) (w.at d) X := by
  intro rest
  induction rest with
  | nil =>
    intro i w out xs hi hxi hL hr hM j2 j3 j6 j9 j10 j11 j12 j13 j14 j15 j16 j17 j18 j19 j20 j21 j22 j23 j24 j25 j26 j27 j28 j29 j30 j31 j32 j33 j34 j35 j36 j37 j38 j39 d
    have hi' : ¬ (i < n) := by simp at hi; omega
    have e : L = xs := by simpa using hL
    subst e
    have h := fun T todo d => h w out T todo d hM
    clear hr hM haS
    simp only [L9b, tail9, body9, Try.f9, Option.getD_some, num] at h ⊢
    repeat (first
      | refine r_end ?_ | refine r_skip ?_ | (refine r_region ?_; simp only [List.size_toArray, List.length_cons, List.length_nil, Nat.reduceAdd, Nat.zero_add, List.range, List.range.loop])
      | (refine r_cond (t := false) (by simp [Act.eval, hi']) ?_; simp only [if_true, if_false, Bool.false_eq_true, ↓reduceIte]; refine r_exit rfl ?_)
      | refine r_seq ?_
      | (refine r_op rfl rfl (by decide) (fun w₁ h₁ K hK => ?_); obtain ⟨dd, hdd⟩ := h₁; subst hdd; (try simp only [at_at']); go_simp
         refine hK _ _ ⟨fun e he => (by have hm := mem_listed he; simp [go_sem] at hm), ?_⟩; clear hK K; try walk_nrm))
    refine r_ret ?_
    exact h _ _ _ fun fn hf => resultsC_tmp hf _
  | cons u rest ih =>
    intro i w out xs hi hxi hL hr hM j2 j3 j6 j9 j10 j11 j12 j13 j14 j15 j16 j17 j18 j19 j20 j21 j22 j23 j24 j25 j26 j27 j28 j29 j30 j31 j32 j33 j34 j35 j36 j37 j38 j39 d
    have hi' : i < n := by simp at hi; omega
    have hi3 : (i : Int) < (n : Int) := by omega
    have ew : IntKind.i64.wrap ((i : Int) + 1) = ((i + 1 : Nat) : Int) := by rw [IntKind.wrap_i64]; omega
    obtain ⟨ad, ha, hcx0⟩ := hr 0 u rfl
    have hcx : w.cell? (ad.add i) = some (num u) := hM.kept.cell hcx0 (by simp)
    have hcS := haS ad ha
    have hsz := hM.kept.size
    clear h
    have hnext := fun w₃ out' ho hg => ih (i + 1) w₃ out' (xs ++ [IntKind.wrap .i64 (u + s)]) (by simp at hi; omega) (by simp [hxi]) (by simpa using hL) (fun j v hj => by
      obtain ⟨ad', h', hc⟩ := hr (j + 1) v (by simpa using hj)
      exact ⟨ad', h', by rw [show i + 1 + j = i + (j + 1) by omega]; exact hc⟩) (hM.next (o := .cells #[num (IntKind.wrap .i64 (u + s))] 3) (out' := out') (w₃ := w₃) ho hg)
    have hown := hM.own
    clear ih hr haS hM hcx0
    subst ha
    simp only [L9b, tail9, body9, Try.f9, Option.getD_some, num] at hnext hcx ⊢
    generalize hy : IntKind.wrap .i64 (u + s) = y at hnext
    repeat (first
      | refine r_end ?_ | refine r_skip ?_ | (refine r_region ?_; simp only [List.size_toArray, List.length_cons, List.length_nil, Nat.reduceAdd, Nat.zero_add, List.range, List.range.loop])
      | (refine r_cond (t := true) (by simp [Act.eval, hi']) ?_; simp only [if_true, if_false, Bool.false_eq_true, ↓reduceIte])
      | refine r_seq ?_ | refine r_block ?_ | refine r_inBlock ?_
      | (refine r_op rfl rfl (by decide) (fun w₁ h₁ K hK => ?_); obtain ⟨dd, hdd⟩ := h₁; subst hdd; (try simp only [at_at', alloc_at']); go_simp
         refine hK _ _ ⟨fun e he => (by have hm := mem_listed he; simp [go_sem, *] at hm; try (subst hm; exact evF_cell _ _ (hcS _ (addBlk' _ _)))), ?_⟩; clear hK K; try walk_nrm))
    try simp only [at_at', alloc_at']
    refine r_append (base := W0.heap.size) (n := xs.length) (xs := xs.map num) (w := (w.alloc (.cells #[.int .i64 y] 3)).at _) (.tmp 30) (.tmp 37) (news := [num y]) rfl rfl (by decide) rfl rfl rfl (hown.alloc _) rfl (fun j u hj => ?_) (fun u hu => ?_) (by omega) (by show _ ≤ (w.alloc _).heap.size; simp; omega) (fun z hz => hS z (by rw [hz]; show W0.heap.size ≤ w.heap.size; omega)) hS (fun v' w' hown' hgrow hmost hblk => ?_)
    · match j, hj with
      | 0, hj =>
        cases hj
        show (w.alloc _).cell? _ = _
        simp [go_sem, num, Addr.add]
    · simp at hu
      subst hu
      rfl
    try walk_nrm
    have hR := hnext w' v' hown' ⟨hgrow.os, hgrow.tape, hgrow.output, hgrow.size, hgrow.block⟩
    clear hnext hown' hgrow hblk hmost hown hcx
    repeat (first
      | refine r_end ?_ | refine r_skip ?_ | (refine r_region ?_; simp only [List.size_toArray, List.length_cons, List.length_nil, Nat.reduceAdd, Nat.zero_add, List.range, List.range.loop])
      | refine r_seq ?_ | refine r_block ?_ | refine r_inBlock ?_
      | (refine r_op rfl rfl (by decide) (fun w₁ h₁ K hK => ?_); obtain ⟨dd, hdd⟩ := h₁; subst hdd; (try simp only [at_at', alloc_at']); go_simp
         refine hK _ _ ⟨fun e he => (by have hm := mem_listed he; simp [go_sem] at hm), ?_⟩; clear hK K; try walk_nrm))
    refine r_inLoop ?_
    exact hR _ _ _ _ _ _ _ _ _ _ _ _ _ _ _ _ _ _ _ _ _ _ _ _ _ _ _ _ _ _ _ _ _ _ _
end


/-- What the document's Relay leaves. -/
def RefPost (S : Loc → Prop) (w : World) (L : List Int) (S' : Loc → Prop) (v : Value) (w' : World) : Prop := S' = S ∧ w'.ownsRow w.heap.size 3 1 v L.length (L.map num) ∧ w.grownBy w' none
set_option maxRecDepth 100000 in
set_option maxHeartbeats 4000000 in
theorem ref_calls {S : Loc → Prop} {w : World} {va vb : Value} {vs ys : List Int} (hx : IntsAt S w va vs) (hy : IntsAt S w vb ys) (hmax : vs.length * 8 ≤ 140737488355328) (hS : ∀ z : Addr, w.heap.size ≤ z.block → ¬ S (.cell z)) :
    CallsR Try.prog S 9 #[va, vb] w (RefPost S w (refL vs ys)) := by
  obtain ⟨a0, ca, rfl, hx, hxS, _, _⟩ := hx
  obtain ⟨b0, cb, rfl, hy, hyS, _, hym⟩ := hy
  refine CallsR.enter Try.func9 (by rfl) rfl fun cs => ?_
  generalize hvn : vs.length = n at hmax ⊢
  generalize hyn : ys.length = m at hym ⊢
  have fin : ∀ w' out' T todo d, Made w out' (refL vs ys) w' → (∀ fn : Func, fn.results = #[.tmp 4] → ResultsC Try.prog fn T out') → Reach Try.prog S (G { (base 9).at ⟨T, []⟩ todo with mode := .returning } cs) (w'.at d)
      fun S' g w' => ∃ a' todo v, g = G { (base 9).at a' todo with mode := .returning } cs ∧ a'.defers = [] ∧ ResultsC Try.prog Try.f9 a'.tmps v ∧ RefPost S w (refL vs ys) S' v w' :=
    fun w' out' T todo d hM hR => .here ⟨⟨T, []⟩, todo, _, rfl, rfl, hR _ rfl, rfl, hM.own, grown_at hM.kept d⟩
  have none0 : Made w (.slice none 0 0) [] w := ⟨World.ownsRow_nil _ _ _ _, grown_refl w none⟩
  by_cases h64 : 64 < m
  · have e : refL vs ys = [] := if_pos (by omega)
    rw [e] at fin
    have fin := fun T todo d => fin w _ T todo d none0
    clear hx hy hxS hyS none0
    simp only [body9, Try.f9, Option.getD_some, Nat.reduceSub, Array.replicate_succ, Array.replicate_zero, List.push_toArray, List.append_toArray, List.nil_append, List.cons_append, List.size_toArray, List.length_cons, List.length_nil, Nat.reduceAdd, Nat.zero_add, e] at fin ⊢
    repeat (first
      | refine r_end ?_ | refine r_skip ?_ | (refine r_region ?_; simp only [List.size_toArray, List.length_cons, List.length_nil, Nat.reduceAdd, Nat.zero_add, List.range, List.range.loop])
      | (refine r_cond (t := true) (by simp [Act.eval] <;> omega) ?_; simp only [if_true, if_false, Bool.false_eq_true, ↓reduceIte])
      | refine r_seq ?_
      | (refine r_op rfl rfl (by decide) (fun w₁ h₁ K hK => ?_); obtain ⟨dd, hdd⟩ := h₁; subst hdd; (try simp only [at_at']); go_simp
         refine hK _ _ ⟨fun e he => (by have hm := mem_listed he; simp [go_sem] at hm), ?_⟩; clear hK K; try walk_nrm))
    refine r_ret ?_
    exact fin _ _ _ fun fn hf => resultsC_tmp hf _
  · have e : refL vs ys = vs.map fun v => IntKind.wrap .i64 (v + sumL 0 ys) := if_neg (by omega)
    have l2 := ref_loop2 (S := S) (cs := cs) (a0 := a0) (ca := ca) (b0 := b0) (cb := cb) (n := n) (m := m) (W0 := w) (s := sumL 0 ys) hmax hxS hS fin vs 0 w (.slice none 0 0) [] (by omega) rfl (by simpa using e) (fun j u hj => by rw [Nat.zero_add]; exact hx j u hj) none0
    have l1 := ref_loop1 (S := S) (cs := cs) (w := w) (a0 := a0) (ca := ca) (b0 := b0) (cb := cb) (n := n) (m := m) (X := fun S' g w' => ∃ a' todo v, g = G { (base 9).at a' todo with mode := .returning } cs ∧ a'.defers = [] ∧ ResultsC Try.prog Try.f9 a'.tmps v ∧ RefPost S w (refL vs ys) S' v w') hym hyS ys 0 0 (by omega) (fun j u hj => by rw [Nat.zero_add]; exact hy j u hj) (fun j2 j3 j6 j7 j8 j9 j10 j11 j12 j13 j14 j15 j16 j17 j18 j19 j20 j21 j22 j23 j24 j25 j26 j27 j28 j29 j30 j31 j32 j33 j34 j35 j36 j37 j38 j39 d => by
      clear fin none0 hx hy hxS hyS
      generalize sumL 0 ys = s at l2 ⊢
      simp only [L9b, tail9, body9, Try.f9, Option.getD_some, num] at l2 ⊢
      repeat (first
        | refine r_end ?_ | (refine r_region ?_; simp only [List.size_toArray, List.length_cons, List.length_nil, Nat.reduceAdd, Nat.zero_add, List.range, List.range.loop])
        | refine r_seq ?_ | refine r_block ?_
        | (refine r_op rfl rfl (by decide) (fun w₁ h₁ K hK => ?_); obtain ⟨dd, hdd⟩ := h₁; subst hdd; (try simp only [at_at']); go_simp
           refine hK _ _ ⟨fun e he => (by have hm := mem_listed he; simp [go_sem] at hm), ?_⟩; clear hK K; try walk_nrm))
      refine r_loop ?_
      exact l2 _ _ _ _ _ _ _ _ _ _ _ _ _ _ _ _ _ _ _ _ _ _ _ _ _ _ _ _ _ _ _ _ _ _ _)
    clear l2 fin none0 hx hy hxS hyS e
    simp only [L9a, tail9, body9, Try.f9, Option.getD_some, Nat.reduceSub, Array.replicate_succ, Array.replicate_zero, List.push_toArray, List.append_toArray, List.nil_append, List.cons_append, List.size_toArray, List.length_cons, List.length_nil, Nat.reduceAdd, Nat.zero_add, num] at l1 ⊢
    repeat (first
      | refine r_end ?_ | refine r_skip ?_ | (refine r_region ?_; simp only [List.size_toArray, List.length_cons, List.length_nil, Nat.reduceAdd, Nat.zero_add, List.range, List.range.loop])
      | (refine r_cond (t := false) (by simp [Act.eval] <;> omega) ?_; simp only [if_true, if_false, Bool.false_eq_true, ↓reduceIte])
      | refine r_seq ?_ | refine r_block ?_
      | (refine r_op rfl rfl (by decide) (fun w₁ h₁ K hK => ?_); obtain ⟨dd, hdd⟩ := h₁; subst hdd; (try simp only [at_at']); go_simp
         refine hK _ _ ⟨fun e he => (by have hm := mem_listed he; simp [go_sem] at hm), ?_⟩; clear hK K; try walk_nrm))
    refine r_loop ?_
    exact l1 _ _ _ _ _ _ _ _ _ _ _ _ _ _ _ _ _ _ _ _ _ _ _ _ _ _ _ _ _ _ _ _ _ _ _ _

end Go.Proofs.Ytdpagejckahkkaa.Net
