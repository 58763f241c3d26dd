/- crew.Relay, called beside goroutines that only leave: the whole call. -/
import Derived.Test.YtdpagejckahkkaaRelay4
set_option linter.unusedSimpArgs false
set_option linter.unusedVariables false
namespace Go.Proofs.Ytdpagejckahkkaa.Net
open Go Go.Conc Go.RowKit

/-- What crew.Relay gives. -/
def relayL (vs ys : List Int) : List Int := if 64 < ys.length then [] else chainL vs ys

section
variable (I : RIn) (cs : List Frame)
variable {S : Loc → Prop} {b B : Nat}
theorem w8_size : (w8 I).heap.size = I.W.heap.size + 3 := by simp [w8]
theorem w8_kr : KR I.W I.W.heap.size I.a0 I.vs.length I.cap (w8 I) := by
  refine ⟨(((Below.refl _ I.W).alloc (Nat.le_refl _) _).alloc (by simp) _).alloc (by simp; omega) _, ?_, ?_⟩
  · unfold w8
    rw [World.cell?_alloc_past _ _ _ (by simp <;> omega), World.cell?_alloc_past _ _ _ (by simp), World.cell?_alloc_at _ _ _ _ rfl]
    rfl
  · unfold w8
    rw [World.cell?_alloc_at _ _ _ _ (by simp)]
    rfl
theorem w8_ch : (w8 I).heap[I.W.heap.size + 1]? = some (.chan 0 #[] false 0 0 false) := by
  unfold w8
  rw [Below.heap_alloc _ _ _ (by simp)]
  have := heap_alloc_new (I.W.alloc (.cells #[.slice I.a0 I.vs.length I.cap] 22)) (.chan 0 #[] false 0 0 false)
  simpa only [World.size_alloc] using this

theorem go0_at {Next : Goroutine → World → Prop} (j12 j13 j14 j15 : Value) (w : World) (hF : G0 I 0 w) (hc : w.heap[cN I.W.heap.size 0]? = some (.chan 0 #[] false 0 0 false)) (h : ∀ j3 j4 j6 j7 j8 j9 j10 j11 j12 j13 j14 j15 j16 j17 j18 j19 j20 j21 j22 j23 j24 j25 j26 j27 j28 j29 j30 j31 j32 j33 j34 j35 j36 j37 j38 w₂, G0 I 0 w₂ → Next (gWent0 I cs j3 j4 j6 j7 j8 j9 j10 j11 j12 j13 j14 j15 j16 j17 j18 j19 j20 j21 j22 j23 j24 j25 j26 j27 j28 j29 j30 j31 j32 j33 j34 j35 j36 j37 j38) w₂) :
    AtGoN (relay I S b B) 0 Next (gGo0 I cs j12 j13 j14 j15) w := by
  refine ⟨rfl, gWent0 I cs undef (.slice none 0 0) undef undef undef undef undef undef j12 j13 j14 j15 (.func (.func 19) #[] #[.pointer (some ⟨I.W.heap.size + 2, 0, none⟩), .pointer (some ⟨I.W.heap.size, 0, none⟩)]) undef undef undef undef undef undef undef undef undef undef undef undef undef undef undef undef undef undef undef undef undef undef, born Try.prog (call19 (I.W.heap.size + 2) I.W.heap.size), #[], ?_, by simp, ⟨rfl, .inl ⟨rfl, rfl⟩⟩, hF.kr, hc, fun w₂ r => h _ _ _ _ _ _ _ _ _ _ _ _ _ _ _ _ _ _ _ _ _ _ _ _ _ _ _ _ _ _ _ _ _ _ _ w₂ (hF.rely r)⟩
  show stepG Try.prog true _ w = _
  unfold gGo0
  rw [stepG_spawn (d := call19 (I.W.heap.size + 2) I.W.heap.size) (w' := w) rfl rfl (by decide) (by simp [go_sem, execOp, Act.eval, call19, ops8go, tail8, body8, Try.f8]) rfl, listed_none (by simp [go_sem, execOp, Act.eval, ops8go, tail8, body8, Try.f8])]
  rfl

theorem relay_spawns (hI : I.Ok S) (hB : I.W.heap.size + 5 + I.ys.length + 2 * I.vs.length ≤ B) (hl : I.ys.length ≤ 64) (j12 j13 j14 j15 : Value) (d : Nat) :
    Spawns (relay I S b B) (Eats (relay I S b B) (FinR I cs) (full (relay I S b B).a (relay I S b B).vs ((relay I S b B).T - 1))) (relay I S b B).T (gGo0 I cs j12 j13 j14 j15) ((w8 I).at d) := by
  have e : (relay I S b B).T - (I.ys.length + 1) = 0 := Nat.sub_self _
  refine (⟨0, ?_⟩ : Spawns (relay I S b B) (Eats (relay I S b B) (FinR I cs) (chainL I.vs I.ys)) (I.ys.length + 1) (gGo0 I cs j12 j13 j14 j15) ((w8 I).at d))
  rw [e]
  intro w₁ r
  have hF : G0 I 0 w₁ := (⟨w8_kr I |>.aside (AsideN.at _ 0 _ d), w8_size I⟩ : G0 I 0 ((w8 I).at d)).rely (m := 0) r
  exact go0_at I cs j12 j13 j14 j15 w₁ hF ((r.block _ fun p hp => absurd hp (Nat.not_lt_zero p)).trans (w8_ch I)) fun j3 j4 j6 j7 j8 j9 j10 j11 j12 j13 j14 j15 j16 j17 j18 j19 j20 j21 j22 j23 j24 j25 j26 j27 j28 j29 j30 j31 j32 j33 j34 j35 j36 j37 j38 w₂ hF => went0_spawns I cs hI hB hl j3 j4 j6 j7 j8 j9 j10 j11 j12 j13 j14 j15 j16 j17 j18 j19 j20 j21 j22 j23 j24 j25 j26 j27 j28 j29 j30 j31 j32 j33 j34 j35 j36 j37 j38 w₂ hF

set_option maxRecDepth 100000 in
/-- Behind the last receive: to the return. -/
theorem relay_ends {X : (Loc → Prop) → Goroutine → World → Prop} (out : Value) (j3 j4 j6 j7 j8 j9 j11 j12 j13 j14 j15 j16 j17 j18 j19 j20 j21 j22 j23 j24 j25 j26 j27 j28 j29 j32 j33 j34 j35 j36 j37 j38 : Value) (w : World) (h : ∀ T todo d, (∀ fn : Func, fn.results = #[.tmp 4] → ResultsC Try.prog fn T out) → Reach Try.prog S (G { (base 8).at ⟨T, []⟩ todo with mode := .returning } cs) (w.at d) X) :
    Reach Try.prog S (gGot I cs out (.tuple #[zer, .bool false]) j3 j4 j6 j7 j8 j9 j11 j12 j13 j14 j15 j16 j17 j18 j19 j20 j21 j22 j23 j24 j25 j26 j27 j28 j29 j32 j33 j34 j35 j36 j37 j38) w X := by
  simp only [gGot, ops8r, rest8b, L8b, tail8, body8, Try.f8, Option.getD_some, num, zer] at h ⊢
  refine r_op rfl rfl (by decide) (fun w₁ h₁ K hK => ?_); obtain ⟨dd, hdd⟩ := h₁; subst hdd; go_simp
  refine hK _ _ ⟨fun e he => (by have hm := mem_listed he; simp [go_sem] at hm), ?_⟩; clear hK K; try walk_nrm
  refine r_end ?_
  refine r_seq ?_
  refine r_cond (t := false) rfl ?_; simp only [if_true, if_false, Bool.false_eq_true, ↓reduceIte]
  refine r_exit rfl ?_
  refine r_seq ?_
  refine r_region ?_; simp only [List.size_toArray, List.length_cons, List.length_nil, Nat.reduceAdd, Nat.zero_add, List.range, List.range.loop]
  refine r_op rfl rfl (by decide) (fun w₁ h₁ K hK => ?_); obtain ⟨dd, hdd⟩ := h₁; subst hdd; go_simp
  refine hK _ _ ⟨fun e he => (by have hm := mem_listed he; simp [go_sem] at hm), ?_⟩; clear hK K; try walk_nrm
  refine r_op rfl rfl (by decide) (fun w₁ h₁ K hK => ?_); obtain ⟨dd, hdd⟩ := h₁; subst hdd; go_simp
  refine hK _ _ ⟨fun e he => (by have hm := mem_listed he; simp [go_sem] at hm), ?_⟩; clear hK K; try walk_nrm
  refine r_end ?_
  refine r_ret ?_
  exact h _ _ _ fun fn hf => resultsC_tmp hf _


/-- THE CALL. -/
def RelayPost (S' : Loc → Prop) (v : Value) (w' : World) : Prop := S' = S ∧ w'.ownsRow I.W.heap.size 3 1 v (relayL I.vs I.ys).length ((relayL I.vs I.ys).map num) ∧ Below I.W.heap.size I.W w'

theorem stillR_mem (a0 : Option Addr) (N : Nat) (l : Loc) (h : StillR N a0 l) : l.isMemory = true := by
  rcases h with ⟨ad, rfl, _⟩ | ⟨p, rfl⟩ <;> rfl
theorem stillR_new (hI : I.Ok S) (l : Loc) (h : StillR I.W.heap.size I.a0 l) : ¬ S l := by
  intro hs
  have hlow := hI.new l hs
  rcases h with ⟨ad, rfl, h⟩ | ⟨p, rfl⟩
  · have hlow : ad.block < I.W.heap.size := hlow
    rcases h with h | h | ⟨z, hz, h⟩
    · omega
    · omega
    · exact (hI.va z hz).2 ad h hs
  · have hlow : cN I.W.heap.size p < I.W.heap.size := hlow
    unfold cN at hlow; split at hlow <;> omega

set_option maxRecDepth 100000 in
theorem relay_many (hI : I.Ok S) (h64 : 64 < I.ys.length) : Reach Try.prog S (G ((base 8).at { tmps := #[.slice I.a0 I.vs.length I.cap, .slice I.a1 I.ys.length I.cap1] ++ Array.replicate (Try.f8.ntmps - 2) undef, defers := [] } [.code body8]) cs) I.W
    fun S' g w' => ∃ a' todo v, g = G { (base 8).at a' todo with mode := .returning } cs ∧ a'.defers = [] ∧ ResultsC Try.prog Try.f8 a'.tmps v ∧ RelayPost I (S := S) S' v w' := by
  simp only [body8, Try.f8, Option.getD_some, Nat.reduceSub, Array.replicate_succ, Array.replicate_zero, List.push_toArray, List.append_toArray, List.nil_append, List.cons_append]
  refine r_seq ?_
  refine r_region ?_; simp only [List.size_toArray, List.length_cons, List.length_nil, Nat.reduceAdd, Nat.zero_add, List.range, List.range.loop]
  refine r_op rfl rfl (by decide) (fun w₁ h₁ K hK => ?_); obtain ⟨dd, hdd⟩ := h₁; subst hdd; go_simp
  refine hK _ _ ⟨fun e he => (by have hm := mem_listed he; simp [go_sem] at hm), ?_⟩; clear hK K; try walk_nrm
  have hB : Below I.W.heap.size I.W ((I.W.at dd).alloc (.cells #[.slice I.a0 I.vs.length I.cap] 22)) :=
    (show Below I.W.heap.size I.W (I.W.at dd) from ⟨rfl, rfl, rfl, Nat.le_refl _, fun _ _ => rfl⟩).alloc (Nat.le_refl _) _
  repeat (first
    | refine r_end ?_ | refine r_seq ?_ | refine r_skip ?_ | (refine r_region ?_; simp only [List.size_toArray, List.length_cons, List.length_nil, Nat.reduceAdd, Nat.zero_add, List.range, List.range.loop])
    | (refine r_op rfl rfl (by decide) (fun w₁ h₁ K hK => ?_); obtain ⟨dd, hdd⟩ := h₁; subst hdd; (try simp only [at_at', alloc_at', setCell_at']); go_simp
       refine hK _ _ ⟨fun e he => (by have hm := mem_listed he; simp [go_sem] at hm), ?_⟩; clear hK K; try walk_nrm)
    | (refine r_cond (t := true) (by simp [Act.eval, *] <;> omega) ?_; simp only [if_true, if_false, Bool.false_eq_true, ↓reduceIte]))
  refine r_ret ?_
  refine .here ⟨_, _, _, rfl, rfl, resultsC_tmp rfl _, rfl, ?_, ?_⟩
  · have e : relayL I.vs I.ys = [] := if_pos h64
    rw [e]
    exact World.ownsRow_nil _ _ _ _
  · exact ⟨hB.os, hB.tape, hB.output, hB.size, hB.block⟩

theorem relay_calls (hI : I.Ok S) : CallsR Try.prog S 8 #[.slice I.a0 I.vs.length I.cap, .slice I.a1 I.ys.length I.cap1] I.W (RelayPost I (S := S)) := by
  refine CallsR.enter Try.func8 (by rfl) rfl fun cs => ?_
  by_cases h64 : 64 < I.ys.length
  · exact relay_many I cs hI h64
  have hl : I.ys.length ≤ 64 := by omega
  refine relay_begins I cs hI hl fun j12 j13 j14 j15 d => ?_
  refine Reach.chain (relay I S) (I.W.heap.size + 5 + I.ys.length + 2 * I.vs.length) (FinR I cs) (fun _ _ => rfl) (fun _ _ => rfl) (fun _ _ => rfl) (fun _ _ => rfl) (fun b B hb hB => relay_fine hI hb (by omega))
    (fun _ _ l h => stillR_mem _ _ l h) (fun _ _ l h => stillR_new I hI l h) (fun b B d' _ hB => relay_spawns I cs hI hB hl j12 j13 j14 j15 d') ?_
  rintro a' w' ⟨out, j3, j4, j6, j7, j8, j9, j11, j12, j13, j14, j15, j16, j17, j18, j19, j20, j21, j22, j23, j24, j25, j26, j27, j28, j29, j32, j33, j34, j35, j36, j37, j38, rfl, hF⟩
  refine relay_ends I cs out j3 j4 j6 j7 j8 j9 j11 j12 j13 j14 j15 j16 j17 j18 j19 j20 j21 j22 j23 j24 j25 j26 j27 j28 j29 j32 j33 j34 j35 j36 j37 j38 w' fun T todo d hr => .here ⟨⟨T, []⟩, todo, out, rfl, rfl, hr _ rfl, rfl, ?_, ?_⟩
  · have e : relayL I.vs I.ys = chainL I.vs I.ys := if_neg h64
    rw [e]
    refine ⟨hF.own.1, hF.own.2.imp id ?_⟩
    rintro ⟨g, cap, cur, e, hg, x⟩
    exact ⟨g, cap, cur, e, by omega, x⟩
  · exact ⟨hF.kr.low.os, hF.kr.low.tape, hF.kr.low.output, hF.kr.low.size, hF.kr.low.block⟩
#print axioms relay_calls
end
end Go.Proofs.Ytdpagejckahkkaa.Net
