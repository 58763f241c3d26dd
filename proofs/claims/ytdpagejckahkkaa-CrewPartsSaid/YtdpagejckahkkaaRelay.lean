/- crew.Relay: goroutine 0's own walk. -/
import Derived.Test.YtdpagejckahkkaaNetJ
import Derived.Test.YtdpagejckahkkaaInts
import Derived.Laws.AppendOwn
import Derived.Laws.Alloc2
import Derived.OwnWalk
import Derived.Conc.AppendWalk
set_option linter.unusedSimpArgs false
namespace Go.Proofs.Ytdpagejckahkkaa.Net
open Go Go.Conc Go.RowKit

noncomputable def body8 : Code := Try.f8.body.getD .skip
noncomputable def tail8 : Nat → Code
  | 0 => body8
  | n + 1 => match tail8 n with | .seq _ r => r | _ => .skip
noncomputable def ops8go : Array Oper := match tail8 3 with | .seq (.region _ ops _) _ => ops | _ => #[]
noncomputable def L8a : Code := match tail8 5 with | .seq (.seq _ (.block _ (.loop c))) _ => c | _ => .skip
noncomputable def L8b : Code := match tail8 7 with | .seq (.seq _ (.block _ (.loop c))) _ => c | _ => .skip
noncomputable def in8a : Code := match L8a with | .seq _ (.seq _ (.seq (.block _ c) _)) => c | _ => .skip
noncomputable def post8a : Code := match L8a with | .seq _ (.seq _ (.seq _ c)) => c | _ => .skip
noncomputable def ops8go2 : Array Oper := match in8a with | .seq _ (.seq _ (.seq (.region _ ops _) _)) => ops | _ => #[]
noncomputable def last8a : Code := match in8a with | .seq _ (.seq _ (.seq _ c)) => c | _ => .skip
noncomputable def ops8r : Array Oper := match L8b with | .seq (.region _ ops _) _ => ops | _ => #[]
noncomputable def rest8b : Code := match L8b with | .seq _ c => c | _ => .skip

theorem bytes3 : ∃ i, Try.prog.info? 3 = some i ∧ i.bytes = 8 := by
  have h : (Try.prog.info? 3).map (·.bytes) = some 8 := by kernel_rfl
  obtain ⟨i, hi, hb⟩ := Option.map_eq_some_iff.1 h
  exact ⟨i, hi, hb⟩
theorem mk0 (w : World) : (Instr.makeChan 33 (.int .i64 0)).run Try.prog w = .ok (.chan (some w.heap.size)) (w.alloc (.chan 0 #[] false 0 0 false)) := by
  obtain ⟨i, hi, hb⟩ := bytes3
  simpa using run_makeChan (P := Try.prog) (w := w) Try.underlying33 hi .i64 0 (by omega) (by rw [hb]; omega)
theorem mk0e (w : World) (es : Array Event) : (Instr.makeChan 33 (.int .i64 0)).events Try.prog w es = es := by
  obtain ⟨i, hi, hb⟩ := bytes3
  simpa using events_makeChan (P := Try.prog) (w := w) Try.underlying33 hi .i64 0 (by omega) (by rw [hb]; omega) es

theorem run_mf (P : Program) (fn : Fn) (first cap : Array Value) (w : World) : (Instr.makeFunc fn first cap).run P w = .ok (.func fn first cap) w := rfl
theorem events_mf (P : Program) (fn : Fn) (first cap : Array Value) (w : World) (es : Array Event) : (Instr.makeFunc fn first cap).events P w es = es := rfl

section
variable (I : RIn) (cs : List Frame)
/-- At the first go statement. -/
noncomputable def gGo0 (j12 j13 j14 j15 : Value) : Goroutine :=
  G ((base 8).at ⟨#[.slice I.a0 I.vs.length I.cap, .slice I.a1 I.ys.length I.cap1, .pointer (some ⟨I.W.heap.size, 0, none⟩), undef, .slice none 0 0, .pointer (some ⟨I.W.heap.size + 2, 0, none⟩), undef, undef, undef, undef, undef, undef, j12, j13, j14, j15, .func (.func 19) #[] #[.pointer (some ⟨I.W.heap.size + 2, 0, none⟩), .pointer (some ⟨I.W.heap.size, 0, none⟩)], undef, undef, undef, undef, undef, undef, undef, undef, undef, undef, undef, undef, undef, undef, undef, undef, undef, undef, undef, undef, undef, undef], []⟩
    [.inRegion ops8go [1], .code (tail8 4)]) cs
/-- The world there. -/
def w8 : World := ((I.W.alloc (.cells #[.slice I.a0 I.vs.length I.cap] 22)).alloc (.chan 0 #[] false 0 0 false)).alloc (.cells #[.chan (some (I.W.heap.size + 1))] 33)

set_option maxRecDepth 100000 in
theorem relay_begins {S : Loc → Prop} {X : (Loc → Prop) → Goroutine → World → Prop} (hI : I.Ok S) (h64 : I.ys.length ≤ 64)
    (h : ∀ j12 j13 j14 j15 d, Reach Try.prog S (gGo0 I cs j12 j13 j14 j15) ((w8 I).at d) X) :
    Reach Try.prog S (G ((base 8).at { tmps := #[.slice I.a0 I.vs.length I.cap, .slice I.a1 I.ys.length I.cap1] ++ Array.replicate (Try.f8.ntmps - 2) undef, defers := [] } [.code body8]) cs) I.W X := by
  have hmc := mk0
  have hme := mk0e
  simp only [gGo0, ops8go, tail8, body8, Try.f8, Option.getD_some, Nat.reduceSub, Array.replicate_succ, Array.replicate_zero, List.push_toArray, List.append_toArray, List.nil_append, List.cons_append] at h ⊢
  have new : ∀ x : Addr, I.W.heap.size ≤ x.block → ¬ S (.cell x) := fun x hx hs => by have : x.block < I.W.heap.size := hI.new _ hs; omega
  have h64' : ¬ (64 < I.ys.length) := by omega
  refine r_seq ?_
  refine r_region ?_; simp only [List.size_toArray, List.length_cons, List.length_nil, Nat.reduceAdd, Nat.zero_add, List.range, List.range.loop]
  refine r_op rfl rfl (by decide) (fun w₁ h₁ K hK => ?_); obtain ⟨dd, hdd⟩ := h₁; subst hdd; go_simp
  refine hK _ _ ⟨fun e he => (by have hm := mem_listed he; simp [go_sem, storedEv, run_mf, events_mf, *] at hm; try (subst hm; exact evF_cell _ _ (new _ (by simp <;> omega)))), ?_⟩; clear hK K; try walk_nrm
  repeat (first
    | refine r_end ?_ | refine r_seq ?_ | refine r_skip ?_ | (refine r_region ?_; simp only [List.size_toArray, List.length_cons, List.length_nil, Nat.reduceAdd, Nat.zero_add, List.range, List.range.loop])
    | (refine r_op rfl rfl (by decide) (fun w₁ h₁ K hK => ?_); obtain ⟨dd, hdd⟩ := h₁; subst hdd; (try simp only [at_at', alloc_at', setCell_at']); go_simp
       refine hK _ _ ⟨fun e he => (by have hm := mem_listed he; simp [go_sem, storedEv, run_mf, events_mf, *] at hm; try (subst hm; exact evF_cell _ _ (new _ (by simp <;> omega)))), ?_⟩; clear hK K; try walk_nrm)
    | (refine r_cond (t := false) (by simp [Act.eval, *] <;> omega) ?_; simp only [if_true, if_false, Bool.false_eq_true, ↓reduceIte]))
  exact h _ _ _ _ _
end
end Go.Proofs.Ytdpagejckahkkaa.Net
