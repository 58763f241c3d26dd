/- The laws' own helpers beside goroutines that only leave: a list is full of one number; a list is written full and gone on with. -/
import Derived.Test.YtdpagejckahkkaaSeqB
set_option linter.unusedSimpArgs false
set_option linter.unusedVariables false
namespace Go.Proofs.Ytdpagejckahkkaa.Net
open Go Go.Conc Go.RowKit


noncomputable def body22 : Code := Try.f22.body.getD .skip
noncomputable def L22 : Code := match body22 with | .seq _ (.seq (.seq _ (.block _ (.loop c))) _) => c | _ => .skip
noncomputable def tail22 : Code := match body22 with | .seq _ (.seq _ c) => c | _ => .skip
section
variable {S : Loc → Prop} {cs : List Frame} {w : World} {X : (Loc → Prop) → Goroutine → World → Prop}
set_option maxRecDepth 100000 in
set_option maxHeartbeats 2000000 in
theorem full_loop {a0 : Option Addr} {ca n : Nat} {m : Int} (hx : ∀ j, j < n → ∃ ad, a0 = some ad ∧ w.cell? (ad.add j) = some (num m)) (hxS : ∀ ad, a0 = some ad → ∀ x : Addr, x.block = ad.block → ¬ S (.cell x)) (hmax : n ≤ 4611686018427387904)
    (h : ∀ T todo d, (∀ fn : Func, fn.results = #[.tmp 4] → ResultsC Try.prog fn T (.bool true)) → Reach Try.prog S (G { (base 22).at ⟨T, []⟩ todo with mode := .returning } cs) (w.at d) X) :
    ∀ (k i : Nat), i + k = n → ∀ (j2 j3 j6 j7 j8 j9 j10 j11 j12 j13 j14 j15 j16 j17 : Value) (d : Nat), Reach Try.prog S (G ((base 22).at ⟨#[.slice a0 n ca, num m, j2, j3, .bool false, num i, j6, j7, j8, j9, j10, j11, j12, j13, j14, j15, j16, j17], []⟩ [.code L22, .inLoop L22, .inBlock 0, .code tail22]) cs) (w.at d) X := by
  intro k
  induction k with
  | zero =>
    intro i hi j2 j3 j6 j7 j8 j9 j10 j11 j12 j13 j14 j15 j16 j17 d
    have hi' : ¬ (i < n) := by omega
    clear hx hxS
    simp only [L22, tail22, body22, Try.f22, Option.getD_some, num]
    repeat (first
      | refine r_end ?_ | refine r_skip ?_ | (refine r_region ?_; simp only [List.size_toArray, List.length_cons, List.length_nil, Nat.reduceAdd, Nat.zero_add, List.range, List.range.loop])
      | (refine r_cond (t := false) (by simp [Act.eval, hi']) ?_; simp only [if_true, if_false, Bool.false_eq_true, ↓reduceIte]; refine r_exit rfl ?_)
      | refine r_seq ?_ | refine r_block ?_ | refine r_inBlock ?_
      | (refine r_op rfl rfl (by decide) (fun w₁ h₁ K hK => ?_); obtain ⟨dd, hdd⟩ := h₁; subst hdd; (try simp only [at_at']); go_simp
         refine hK _ _ ⟨fun e he => (by have hm := mem_listed he; simp [go_sem] at hm), ?_⟩; clear hK K; try walk_nrm))
    refine r_ret ?_
    exact h _ _ _ fun fn hf => resultsC_tmp hf _
  | succ k ih =>
    intro i hi j2 j3 j6 j7 j8 j9 j10 j11 j12 j13 j14 j15 j16 j17 d
    have hi' : i < n := by omega
    have hi3 : (i : Int) < (n : Int) := by omega
    obtain ⟨ad, ha, hcx⟩ := hx i hi'
    have hS := hxS ad ha
    have ew : IntKind.i64.wrap ((i : Int) + 1) = ((i + 1 : Nat) : Int) := by rw [IntKind.wrap_i64]; omega
    have ih := ih (i + 1) (by omega)
    clear hx hxS h
    subst ha
    simp only [L22, tail22, body22, Try.f22, Option.getD_some, num] at ih hcx ⊢
    repeat (first
      | refine r_end ?_ | refine r_skip ?_ | (refine r_region ?_; simp only [List.size_toArray, List.length_cons, List.length_nil, Nat.reduceAdd, Nat.zero_add, List.range, List.range.loop])
      | (refine r_cond (t := false) rfl ?_; simp only [if_true, if_false, Bool.false_eq_true, ↓reduceIte])
      | (refine r_cond (t := true) (by simp [Act.eval, hi']) ?_; simp only [if_true, if_false, Bool.false_eq_true, ↓reduceIte])
      | refine r_seq ?_ | refine r_block ?_ | refine r_inBlock ?_
      | (refine r_op rfl rfl (by decide) (fun w₁ h₁ K hK => ?_); obtain ⟨dd, hdd⟩ := h₁; subst hdd; (try simp only [at_at']); go_simp
         refine hK _ _ ⟨fun e he => (by have hm := mem_listed he; simp [go_sem, *] at hm; try (subst hm; exact evF_cell _ _ (hS _ (addBlk' _ _)))), ?_⟩; clear hK K; try walk_nrm))
    refine r_inLoop ?_
    exact ih _ _ _ _ _ _ _ _ _ _ _ _ _ _ _

set_option maxRecDepth 100000 in
/-- full: of a list that is full. -/
theorem full_calls {v : Value} {n : Nat} {m : Int} (hx : IntsAt S w v (List.replicate n m)) : CallsR Try.prog S 22 #[v, num m] w (fun S' r w' => S' = S ∧ r = .bool true ∧ AtRel w w') := by
  obtain ⟨a0, ca, rfl, hx, hxS, _, hxm⟩ := hx
  simp only [List.length_replicate] at hxm ⊢
  refine CallsR.enter Try.func22 (by rfl) rfl fun cs => ?_
  have loop := full_loop (cs := cs) (ca := ca) (m := m) (fun j hj => hx j m (by simp [hj])) hxS hxm (X := fun S' g w' => ∃ a' todo v, g = G { (base 22).at a' todo with mode := .returning } cs ∧ a'.defers = [] ∧ ResultsC Try.prog Try.f22 a'.tmps v ∧ S' = S ∧ v = .bool true ∧ AtRel w w')
    (fun T todo d hR => .here ⟨⟨T, []⟩, todo, _, rfl, rfl, hR _ rfl, rfl, rfl, ⟨d, rfl⟩⟩) n 0 (by omega)
  clear hx hxS
  simp only [L22, tail22, body22, Try.f22, Option.getD_some, Nat.reduceSub, Array.replicate_succ, Array.replicate_zero, List.push_toArray, List.append_toArray, List.nil_append, List.cons_append, List.size_toArray, List.length_cons, List.length_nil, Nat.reduceAdd, Nat.zero_add, num] at loop ⊢
  repeat (first
      | refine r_end ?_ | refine r_skip ?_ | (refine r_region ?_; simp only [List.size_toArray, List.length_cons, List.length_nil, Nat.reduceAdd, Nat.zero_add, List.range, List.range.loop])
      | refine r_seq ?_ | refine r_block ?_ | refine r_inBlock ?_
      | (refine r_op rfl rfl (by decide) (fun w₁ h₁ K hK => ?_); obtain ⟨dd, hdd⟩ := h₁; subst hdd; (try simp only [at_at']); go_simp
         refine hK _ _ ⟨fun e he => (by have hm := mem_listed he; simp [go_sem] at hm), ?_⟩; clear hK K; try walk_nrm))
  refine r_loop ?_
  exact loop _ _ _ _ _ _ _ _ _ _ _ _ _ _ _
end

end Go.Proofs.Ytdpagejckahkkaa.Net
