/- A sender's last words to the group: Done, from the deferred call on: release-and-merge, disable, the atomic add; and, if it was the last and goroutine 0 waits, the semaphore. -/
import Derived.Test.YtdpagejckahkkaaSend
import Derived.Test.YtdpagejckahkkaaLink
import Derived.Test.YtdpagejckahkkaaMergeD
import Derived.Conc.WgGenN
set_option linter.unusedSimpArgs false
set_option linter.unusedVariables false
namespace Go.Proofs.Ytdpagejckahkkaa.Net
open Go Go.Conc Go.RowKit Go.ConcR.Gen
open Go.ConcR (stA smA rd wr mk WgAt KK)

section
variable (C : MCfg)
/-- It walks to there. -/
def To (s : MS) (Stop : Goroutine → Prop) (g : Goroutine) : Prop := ∃ n, ∀ w, Goes C.P false (fun _ w₁ => C.S w₁) (DS (fun l => C.Still l ∧ ¬ s.said) C.B) (fun g₁ _ => Stop g₁) n g w
def WGone (g : Goroutine) : Prop := ∃ q, QuitsD C.P q 1 g
def WL4 : Goroutine → Prop := To C .l4 (AtL4 C (WGone C))
def WL3 : Goroutine → Prop := To C .l3 (AtL3 C (WL4 C))
def WL2 : Goroutine → Prop := To C .l2 (AtL2 C (WL3 C))
def WDeaf : Goroutine → Prop := To C .deaf (AtAddNeg C (WL2 C) (WGone C))
def WRel : Goroutine → Prop := To C .rel (AtMark C .disable (WDeaf C))
def WDone : Goroutine → Prop := To C .done (AtMark C (.releaseMerge (stA C.Wg)) (WRel C))
end

theorem ends24 (T : Array Value) (k : List Item) (n : Nat) : QuitsD Try.prog (n + 2) 0 (G { b24.at ⟨T, []⟩ k with mode := .returning } [bot]) := by
  refine .inr ⟨rfl, G bot [], #[], by simp, fun w => ?_, ?_⟩
  · simp [G, stepG, unwind, doReturn, results, Frame.at, b24, baseD, bot, Try.func24, Try.f24, seen, GStep.after, goexitEntry]
  · refine .inr ⟨rfl, { G bot [] with status := .finished }, #[], by simp, fun w => ?_, ?_⟩
    · simp [G, stepG, unwind, bot, goexitEntry, Frame.catches]
      try rfl
    · cases n with
      | zero => exact ⟨rfl, rfl⟩
      | succ n => exact .inl ⟨rfl, rfl⟩

set_option maxRecDepth 100000 in
set_option maxHeartbeats 8000000 in
theorem done_says {C : MCfg} (hP : C.P = Try.prog) (hty : C.ty = 47) (hl : ∀ w, C.S w → Go.ConcN.WgLive 47 C.Wg w) (T : Array Value) (k : List Item) : WDone C (gDone24 C.Wg T k) := by
  refine ⟨100, fun w => ?_⟩
  unfold gDone24
  rw [hP]
  k_in
  rw [stepG_unwind_enter rfl Try.func39 (by rfl) rfl]
  refine ⟨ds_none _, ?_⟩
  simp only [Try.f39, Nat.reduceSub, Array.replicate_succ, Array.replicate_zero, List.push_toArray, List.append_toArray, List.nil_append, List.cons_append, List.size_toArray, List.length_cons, List.length_nil, Nat.reduceAdd, Nat.zero_add]
  k_reg
  k_in
  refine goes_oper_k rfl rfl (by decide) (fun K hK => ?_); go_simp; refine hK _ _ ⟨⟨rfl, fun e he => by (have hm := mem_listed he; simp [go_sem] at hm)⟩, ?_⟩; clear hK K
  k_in
  refine goes_call rfl rfl (by decide) rfl Try.func23 (by rfl) rfl ⟨ds_none _, ?_⟩
  clear h₁
  walk_nrmf Try.f23
  repeat (first
    | (k_c stepG_region_end; clear h₁) | (k_c stepG_skip; clear h₁) | (k_reg; clear h₁) | (k_c stepG_seq; clear h₁) | (k_c stepG_block; clear h₁) | (k_c stepG_inBlock; clear h₁) | (k_c stepG_loop; clear h₁) | (k_c stepG_inLoop; clear h₁)
    | (k_in; rw [stepG_unwanted rfl rfl]; simp only [goes_go]; refine ⟨ds_none _, ?_⟩; walk_nrm; clear h₁)
    | (k_in; rw [stepG_cond (t := true) rfl]; simp only [goes_go, if_true, if_false, Bool.false_eq_true, ↓reduceIte]; refine ⟨ds_none _, ?_⟩; clear h₁)
    | (k_in; rw [stepG_cond (t := false) rfl]; simp only [goes_go, if_true, if_false, Bool.false_eq_true, ↓reduceIte]; refine ⟨ds_none _, ?_⟩; clear h₁)
    | (k_in; rw [stepG_defer rfl rfl (by decide) rfl]; simp only [goes_go]; refine ⟨ds_none _, ?_⟩; walk_nrm; clear h₁)
    | (k_in; rw [stepG_entry_pure (.bool false) rfl rfl (by decide) rfl wgLib.f_inBubble (x_inBubble_n link) (x_inBubble_b link) (x_inBubble_x link) (x_inBubble_f link)]; simp only [goes_go]; refine ⟨ds_none _, ?_⟩; walk_nrm; clear h₁)
    | (k_in
       refine goes_oper_k rfl rfl (by decide) (fun K hK => ?_); go_simp; try w_num
       refine hK _ _ ⟨⟨rfl, fun e he => by (have hm := mem_listed he; simp [go_sem] at hm)⟩, ?_⟩; clear hK K h₁; try walk_nrm))
  k_in
  have hc := (Go.ConcN.Gen.WgLive.cell0 (hl _ h₁)).choose_spec
  have hcv := run_convert_to_unsafe (P := Try.prog) wgLib.underlying_tWgP wgLib.underlying_tUP wgLib.room_tWg hc
  have hce := fun es => events_convert_to_unsafe (P := Try.prog) wgLib.underlying_tWgP wgLib.underlying_tUP wgLib.room_tWg hc es
  refine goes_oper_k rfl rfl (by decide) (fun K hK => ?_)
  go_simp
  refine hK _ _ ⟨⟨rfl, fun e he => by (have hm := mem_listed he; simp [go_sem, *] at hm)⟩, ?_⟩; clear hK K hcv hce hc
  refine Goes.stop fun w₁ h₁ => ⟨rfl, _, fun w hw => by rw [hP]; exact stepG_markAt .releaseMerge (by simp) rfl rfl (by decide) rfl wgLib.f_relMerge (x_relMerge_n link) (x_relMerge_b link) (x_relMerge_x link) (x_relMerge_f link) (by simp [Act.eval, stA]), 100, fun w => ?_⟩
  rw [hP]
  walk_nrm
  k_c stepG_region_end
  k_c stepG_seq
  k_reg
  refine Goes.stop fun w₁ h₁ => ⟨rfl, _, fun w hw => by rw [hP]; exact stepG_mark0 .disable (by simp) rfl rfl (by decide) rfl wgLib.f_disable (x_disable_n link) (x_disable_b link) (x_disable_x link) (x_disable_f link), 200, fun w => ?_⟩
  rw [hP]
  walk_nrm
  repeat (first
    | (k_c stepG_region_end; clear h₁) | (k_c stepG_skip; clear h₁) | (k_reg; clear h₁) | (k_c stepG_seq; clear h₁) | (k_c stepG_block; clear h₁) | (k_c stepG_inBlock; clear h₁) | (k_c stepG_loop; clear h₁) | (k_c stepG_inLoop; clear h₁)
    | (k_in; rw [stepG_unwanted rfl rfl]; simp only [goes_go]; refine ⟨ds_none _, ?_⟩; walk_nrm; clear h₁)
    | (k_in; rw [stepG_cond (t := true) rfl]; simp only [goes_go, if_true, if_false, Bool.false_eq_true, ↓reduceIte]; refine ⟨ds_none _, ?_⟩; clear h₁)
    | (k_in; rw [stepG_cond (t := false) rfl]; simp only [goes_go, if_true, if_false, Bool.false_eq_true, ↓reduceIte]; refine ⟨ds_none _, ?_⟩; clear h₁)
    | (k_in; rw [stepG_defer rfl rfl (by decide) rfl]; simp only [goes_go]; refine ⟨ds_none _, ?_⟩; walk_nrm; clear h₁)
    | (k_in; rw [stepG_entry_pure (.bool false) rfl rfl (by decide) rfl wgLib.f_inBubble (x_inBubble_n link) (x_inBubble_b link) (x_inBubble_x link) (x_inBubble_f link)]; simp only [goes_go]; refine ⟨ds_none _, ?_⟩; walk_nrm; clear h₁)
    | (k_in
       refine goes_oper_k rfl rfl (by decide) (fun K hK => ?_); go_simp; try w_num
       refine hK _ _ ⟨⟨rfl, fun e he => by (have hm := mem_listed he; simp [go_sem] at hm)⟩, ?_⟩; clear hK K h₁; try walk_nrm))
  k_in
  refine goes_call rfl rfl (by decide) rfl Try.func33 (by rfl) rfl ⟨ds_none _, ?_⟩
  clear h₁
  walk_nrmf Try.f33
  repeat (first
    | (k_c stepG_region_end; clear h₁) | (k_c stepG_skip; clear h₁) | (k_reg; clear h₁) | (k_c stepG_seq; clear h₁) | (k_c stepG_block; clear h₁) | (k_c stepG_inBlock; clear h₁) | (k_c stepG_loop; clear h₁) | (k_c stepG_inLoop; clear h₁)
    | (k_in; rw [stepG_unwanted rfl rfl]; simp only [goes_go]; refine ⟨ds_none _, ?_⟩; walk_nrm; clear h₁)
    | (k_in; rw [stepG_cond (t := true) rfl]; simp only [goes_go, if_true, if_false, Bool.false_eq_true, ↓reduceIte]; refine ⟨ds_none _, ?_⟩; clear h₁)
    | (k_in; rw [stepG_cond (t := false) rfl]; simp only [goes_go, if_true, if_false, Bool.false_eq_true, ↓reduceIte]; refine ⟨ds_none _, ?_⟩; clear h₁)
    | (k_in; rw [stepG_defer rfl rfl (by decide) rfl]; simp only [goes_go]; refine ⟨ds_none _, ?_⟩; walk_nrm; clear h₁)
    | (k_in; rw [stepG_entry_pure (.bool false) rfl rfl (by decide) rfl wgLib.f_inBubble (x_inBubble_n link) (x_inBubble_b link) (x_inBubble_x link) (x_inBubble_f link)]; simp only [goes_go]; refine ⟨ds_none _, ?_⟩; walk_nrm; clear h₁)
    | (k_in
       refine goes_oper_k rfl rfl (by decide) (fun K hK => ?_); go_simp; try w_num
       refine hK _ _ ⟨⟨rfl, fun e he => by (have hm := mem_listed he; simp [go_sem] at hm)⟩, ?_⟩; clear hK K h₁; try walk_nrm))
  refine Goes.stop fun w₁ h₁ => ⟨rfl, fun w hw v wt hwt hv hg => ?_⟩
  rw [hty] at hg
  rw [hP]
  have eW : IntKind.u64.wrap (((v : Int) + 1) * KK + wt + 18446744069414584320) = v * KK + wt := by
    simp only [IntKind.wrap_u64, KK]; omega
  refine ⟨_, (stepG_add_atomic rfl rfl (by decide) rfl wgLib.f_addU64 (x_addU64_n link) (x_addU64_b link) (x_addU64_x link) .u64 (x_addU64_f link) rfl rfl hg.cellSt (hg.thaw 0)).trans (by rw [eW]; rfl), fun hlast => ?_, fun hnl => ?_⟩
  · obtain ⟨rfl, rfl⟩ := hlast
    clear eW hg
    rw [show (((0 : Nat) : Int) * KK + ((1 : Nat) : Int)) = 1 by simp]
    refine ⟨200, fun w => ?_⟩
    rw [hP]
    walk_nrm
    repeat (first
      | (k_c stepG_region_end; clear h₁) | (k_c stepG_skip; clear h₁) | (k_reg; clear h₁) | (k_c stepG_seq; clear h₁) | (k_c stepG_block; clear h₁) | (k_c stepG_inBlock; clear h₁) | (k_c stepG_loop; clear h₁) | (k_c stepG_inLoop; clear h₁) | (k_c stepG_ret'; clear h₁)
      | (k_in; rw [stepG_unwanted rfl rfl]; simp only [goes_go]; refine ⟨ds_none _, ?_⟩; walk_nrm; clear h₁)
      | (k_in; rw [stepG_cond (t := true) rfl]; simp only [goes_go, if_true, if_false, Bool.false_eq_true, ↓reduceIte]; refine ⟨ds_none _, ?_⟩; clear h₁)
      | (k_in; rw [stepG_cond (t := false) rfl]; simp only [goes_go, if_true, if_false, Bool.false_eq_true, ↓reduceIte]; refine ⟨ds_none _, ?_⟩; clear h₁)
      | (k_in; rw [stepG_defer rfl rfl (by decide) rfl]; simp only [goes_go]; refine ⟨ds_none _, ?_⟩; walk_nrm; clear h₁)
      | (k_in; rw [stepG_entry_pure (.bool false) rfl rfl (by decide) rfl wgLib.f_inBubble (x_inBubble_n link) (x_inBubble_b link) (x_inBubble_x link) (x_inBubble_f link)]; simp only [goes_go]; refine ⟨ds_none _, ?_⟩; walk_nrm; clear h₁)
      | (k_in
         refine goes_oper_k rfl rfl (by decide) (fun K hK => ?_); go_simp; try w_num
         refine hK _ _ ⟨⟨rfl, fun e he => by (have hm := mem_listed he; simp [go_sem] at hm)⟩, ?_⟩; clear hK K h₁; try walk_nrm))
    k_in
    refine goes_leave1 rfl rfl Try.func33 rfl ⟨ds_none _, ?_⟩
    clear h₁
    walk_nrm
    repeat (first
      | (k_c stepG_region_end; clear h₁) | (k_c stepG_skip; clear h₁) | (k_reg; clear h₁) | (k_c stepG_seq; clear h₁) | (k_c stepG_block; clear h₁) | (k_c stepG_inBlock; clear h₁) | (k_c stepG_loop; clear h₁) | (k_c stepG_inLoop; clear h₁)
      | (k_in; rw [stepG_unwanted rfl rfl]; simp only [goes_go]; refine ⟨ds_none _, ?_⟩; walk_nrm; clear h₁)
      | (k_in; rw [stepG_cond (t := true) rfl]; simp only [goes_go, if_true, if_false, Bool.false_eq_true, ↓reduceIte]; refine ⟨ds_none _, ?_⟩; clear h₁)
      | (k_in; rw [stepG_cond (t := false) rfl]; simp only [goes_go, if_true, if_false, Bool.false_eq_true, ↓reduceIte]; refine ⟨ds_none _, ?_⟩; clear h₁)
      | (k_in; rw [stepG_defer rfl rfl (by decide) rfl]; simp only [goes_go]; refine ⟨ds_none _, ?_⟩; walk_nrm; clear h₁)
      | (k_in; rw [stepG_entry_pure (.bool false) rfl rfl (by decide) rfl wgLib.f_inBubble (x_inBubble_n link) (x_inBubble_b link) (x_inBubble_x link) (x_inBubble_f link)]; simp only [goes_go]; refine ⟨ds_none _, ?_⟩; walk_nrm; clear h₁)
      | (k_in
         refine goes_oper_k rfl rfl (by decide) (fun K hK => ?_); go_simp; try w_num
         refine hK _ _ ⟨⟨rfl, fun e he => by (have hm := mem_listed he; simp [go_sem] at hm)⟩, ?_⟩; clear hK K h₁; try walk_nrm))
    k_in
    refine goes_call rfl rfl (by decide) rfl Try.func35 (by rfl) rfl ⟨ds_none _, ?_⟩
    clear h₁
    walk_nrmf Try.f35
    repeat (first
      | (k_c stepG_region_end; clear h₁) | (k_c stepG_skip; clear h₁) | (k_reg; clear h₁) | (k_c stepG_seq; clear h₁) | (k_c stepG_block; clear h₁) | (k_c stepG_inBlock; clear h₁) | (k_c stepG_loop; clear h₁) | (k_c stepG_inLoop; clear h₁)
      | (k_in; rw [stepG_unwanted rfl rfl]; simp only [goes_go]; refine ⟨ds_none _, ?_⟩; walk_nrm; clear h₁)
      | (k_in; rw [stepG_cond (t := true) rfl]; simp only [goes_go, if_true, if_false, Bool.false_eq_true, ↓reduceIte]; refine ⟨ds_none _, ?_⟩; clear h₁)
      | (k_in; rw [stepG_cond (t := false) rfl]; simp only [goes_go, if_true, if_false, Bool.false_eq_true, ↓reduceIte]; refine ⟨ds_none _, ?_⟩; clear h₁)
      | (k_in; rw [stepG_defer rfl rfl (by decide) rfl]; simp only [goes_go]; refine ⟨ds_none _, ?_⟩; walk_nrm; clear h₁)
      | (k_in; rw [stepG_entry_pure (.bool false) rfl rfl (by decide) rfl wgLib.f_inBubble (x_inBubble_n link) (x_inBubble_b link) (x_inBubble_x link) (x_inBubble_f link)]; simp only [goes_go]; refine ⟨ds_none _, ?_⟩; walk_nrm; clear h₁)
      | (k_in
         refine goes_oper_k rfl rfl (by decide) (fun K hK => ?_); go_simp; try w_num
         refine hK _ _ ⟨⟨rfl, fun e he => by (have hm := mem_listed he; simp [go_sem] at hm)⟩, ?_⟩; clear hK K h₁; try walk_nrm))
    refine Goes.stop fun w₁ h₁ => ⟨rfl, fun w hw hg => ?_⟩
    rw [hty] at hg
    rw [hP]
    refine ⟨_, stepG_load_atomic rfl rfl (by decide) rfl wgLib.f_loadU64 (x_loadU64_n link) (x_loadU64_b link) (x_loadU64_x link) .u64 (x_loadU64_f link) rfl hg.cellSt, 200, fun w => ?_⟩
    clear hg
    rw [hP]
    walk_nrm
    repeat (first
      | (k_c stepG_region_end; clear h₁) | (k_c stepG_skip; clear h₁) | (k_reg; clear h₁) | (k_c stepG_seq; clear h₁) | (k_c stepG_block; clear h₁) | (k_c stepG_inBlock; clear h₁) | (k_c stepG_loop; clear h₁) | (k_c stepG_inLoop; clear h₁) | (k_c stepG_ret'; clear h₁)
      | (k_in; rw [stepG_unwanted rfl rfl]; simp only [goes_go]; refine ⟨ds_none _, ?_⟩; walk_nrm; clear h₁)
      | (k_in; rw [stepG_cond (t := true) rfl]; simp only [goes_go, if_true, if_false, Bool.false_eq_true, ↓reduceIte]; refine ⟨ds_none _, ?_⟩; clear h₁)
      | (k_in; rw [stepG_cond (t := false) rfl]; simp only [goes_go, if_true, if_false, Bool.false_eq_true, ↓reduceIte]; refine ⟨ds_none _, ?_⟩; clear h₁)
      | (k_in; rw [stepG_defer rfl rfl (by decide) rfl]; simp only [goes_go]; refine ⟨ds_none _, ?_⟩; walk_nrm; clear h₁)
      | (k_in; rw [stepG_entry_pure (.bool false) rfl rfl (by decide) rfl wgLib.f_inBubble (x_inBubble_n link) (x_inBubble_b link) (x_inBubble_x link) (x_inBubble_f link)]; simp only [goes_go]; refine ⟨ds_none _, ?_⟩; walk_nrm; clear h₁)
      | (k_in
         refine goes_oper_k rfl rfl (by decide) (fun K hK => ?_); go_simp; try w_num
         refine hK _ _ ⟨⟨rfl, fun e he => by (have hm := mem_listed he; simp [go_sem] at hm)⟩, ?_⟩; clear hK K h₁; try walk_nrm))
    k_in
    refine goes_leave1 rfl rfl Try.func35 rfl ⟨ds_none _, ?_⟩
    clear h₁
    walk_nrm
    repeat (first
      | (k_c stepG_region_end; clear h₁) | (k_c stepG_skip; clear h₁) | (k_reg; clear h₁) | (k_c stepG_seq; clear h₁) | (k_c stepG_block; clear h₁) | (k_c stepG_inBlock; clear h₁) | (k_c stepG_loop; clear h₁) | (k_c stepG_inLoop; clear h₁)
      | (k_in; rw [stepG_unwanted rfl rfl]; simp only [goes_go]; refine ⟨ds_none _, ?_⟩; walk_nrm; clear h₁)
      | (k_in; rw [stepG_cond (t := true) rfl]; simp only [goes_go, if_true, if_false, Bool.false_eq_true, ↓reduceIte]; refine ⟨ds_none _, ?_⟩; clear h₁)
      | (k_in; rw [stepG_cond (t := false) rfl]; simp only [goes_go, if_true, if_false, Bool.false_eq_true, ↓reduceIte]; refine ⟨ds_none _, ?_⟩; clear h₁)
      | (k_in; rw [stepG_defer rfl rfl (by decide) rfl]; simp only [goes_go]; refine ⟨ds_none _, ?_⟩; walk_nrm; clear h₁)
      | (k_in; rw [stepG_entry_pure (.bool false) rfl rfl (by decide) rfl wgLib.f_inBubble (x_inBubble_n link) (x_inBubble_b link) (x_inBubble_x link) (x_inBubble_f link)]; simp only [goes_go]; refine ⟨ds_none _, ?_⟩; walk_nrm; clear h₁)
      | (k_in
         refine goes_oper_k rfl rfl (by decide) (fun K hK => ?_); go_simp; try w_num
         refine hK _ _ ⟨⟨rfl, fun e he => by (have hm := mem_listed he; simp [go_sem] at hm)⟩, ?_⟩; clear hK K h₁; try walk_nrm))
    k_in
    refine goes_call rfl rfl (by decide) rfl Try.func36 (by rfl) rfl ⟨ds_none _, ?_⟩
    clear h₁
    walk_nrmf Try.f36
    repeat (first
      | (k_c stepG_region_end; clear h₁) | (k_c stepG_skip; clear h₁) | (k_reg; clear h₁) | (k_c stepG_seq; clear h₁) | (k_c stepG_block; clear h₁) | (k_c stepG_inBlock; clear h₁) | (k_c stepG_loop; clear h₁) | (k_c stepG_inLoop; clear h₁)
      | (k_in; rw [stepG_unwanted rfl rfl]; simp only [goes_go]; refine ⟨ds_none _, ?_⟩; walk_nrm; clear h₁)
      | (k_in; rw [stepG_cond (t := true) rfl]; simp only [goes_go, if_true, if_false, Bool.false_eq_true, ↓reduceIte]; refine ⟨ds_none _, ?_⟩; clear h₁)
      | (k_in; rw [stepG_cond (t := false) rfl]; simp only [goes_go, if_true, if_false, Bool.false_eq_true, ↓reduceIte]; refine ⟨ds_none _, ?_⟩; clear h₁)
      | (k_in; rw [stepG_defer rfl rfl (by decide) rfl]; simp only [goes_go]; refine ⟨ds_none _, ?_⟩; walk_nrm; clear h₁)
      | (k_in; rw [stepG_entry_pure (.bool false) rfl rfl (by decide) rfl wgLib.f_inBubble (x_inBubble_n link) (x_inBubble_b link) (x_inBubble_x link) (x_inBubble_f link)]; simp only [goes_go]; refine ⟨ds_none _, ?_⟩; walk_nrm; clear h₁)
      | (k_in
         refine goes_oper_k rfl rfl (by decide) (fun K hK => ?_); go_simp; try w_num
         refine hK _ _ ⟨⟨rfl, fun e he => by (have hm := mem_listed he; simp [go_sem] at hm)⟩, ?_⟩; clear hK K h₁; try walk_nrm))
    refine Goes.stop fun w₁ h₁ => ⟨rfl, fun w hw hg => ?_⟩
    rw [hty] at hg
    rw [hP]
    refine ⟨_, stepG_store_atomic rfl rfl (by decide) rfl wgLib.f_storeU64 (x_storeU64_n link) (x_storeU64_b link) (x_storeU64_x link) (x_storeU64_f link) rfl rfl hg.cellSt (hg.thaw 0), 200, fun w => ?_⟩
    clear hg
    rw [hP]
    walk_nrm
    repeat (first
      | (k_c stepG_region_end; clear h₁) | (k_c stepG_skip; clear h₁) | (k_reg; clear h₁) | (k_c stepG_seq; clear h₁) | (k_c stepG_block; clear h₁) | (k_c stepG_inBlock; clear h₁) | (k_c stepG_loop; clear h₁) | (k_c stepG_inLoop; clear h₁) | (k_c stepG_ret'; clear h₁)
      | (k_in; rw [stepG_unwanted rfl rfl]; simp only [goes_go]; refine ⟨ds_none _, ?_⟩; walk_nrm; clear h₁)
      | (k_in; rw [stepG_cond (t := true) rfl]; simp only [goes_go, if_true, if_false, Bool.false_eq_true, ↓reduceIte]; refine ⟨ds_none _, ?_⟩; clear h₁)
      | (k_in; rw [stepG_cond (t := false) rfl]; simp only [goes_go, if_true, if_false, Bool.false_eq_true, ↓reduceIte]; refine ⟨ds_none _, ?_⟩; clear h₁)
      | (k_in; rw [stepG_defer rfl rfl (by decide) rfl]; simp only [goes_go]; refine ⟨ds_none _, ?_⟩; walk_nrm; clear h₁)
      | (k_in; rw [stepG_entry_pure (.bool false) rfl rfl (by decide) rfl wgLib.f_inBubble (x_inBubble_n link) (x_inBubble_b link) (x_inBubble_x link) (x_inBubble_f link)]; simp only [goes_go]; refine ⟨ds_none _, ?_⟩; walk_nrm; clear h₁)
      | (k_in
         refine goes_oper_k rfl rfl (by decide) (fun K hK => ?_); go_simp; try w_num
         refine hK _ _ ⟨⟨rfl, fun e he => by (have hm := mem_listed he; simp [go_sem] at hm)⟩, ?_⟩; clear hK K h₁; try walk_nrm))
    k_c stepG_end
    k_in
    refine goes_leave0 rfl rfl Try.func36 rfl ⟨ds_none _, ?_⟩
    clear h₁
    walk_nrm
    repeat (first
      | (k_c stepG_region_end; clear h₁) | (k_c stepG_skip; clear h₁) | (k_reg; clear h₁) | (k_c stepG_seq; clear h₁) | (k_c stepG_block; clear h₁) | (k_c stepG_inBlock; clear h₁) | (k_c stepG_loop; clear h₁) | (k_c stepG_inLoop; clear h₁)
      | (k_in; rw [stepG_unwanted rfl rfl]; simp only [goes_go]; refine ⟨ds_none _, ?_⟩; walk_nrm; clear h₁)
      | (k_in; rw [stepG_cond (t := true) rfl]; simp only [goes_go, if_true, if_false, Bool.false_eq_true, ↓reduceIte]; refine ⟨ds_none _, ?_⟩; clear h₁)
      | (k_in; rw [stepG_cond (t := false) rfl]; simp only [goes_go, if_true, if_false, Bool.false_eq_true, ↓reduceIte]; refine ⟨ds_none _, ?_⟩; clear h₁)
      | (k_in; rw [stepG_defer rfl rfl (by decide) rfl]; simp only [goes_go]; refine ⟨ds_none _, ?_⟩; walk_nrm; clear h₁)
      | (k_in; rw [stepG_entry_pure (.bool false) rfl rfl (by decide) rfl wgLib.f_inBubble (x_inBubble_n link) (x_inBubble_b link) (x_inBubble_x link) (x_inBubble_f link)]; simp only [goes_go]; refine ⟨ds_none _, ?_⟩; walk_nrm; clear h₁)
      | (k_in
         refine goes_oper_k rfl rfl (by decide) (fun K hK => ?_); go_simp; try w_num
         refine hK _ _ ⟨⟨rfl, fun e he => by (have hm := mem_listed he; simp [go_sem] at hm)⟩, ?_⟩; clear hK K h₁; try walk_nrm))
    refine Goes.stop fun w₁ h₁ => ⟨rfl, by rw [hP]; exact mayWake_entry rfl rfl wgLib.f_semrelease (x_semrelease_b link), fun w hw hg => ?_⟩
    rw [hty] at hg
    rw [hP]
    refine ⟨_, (stepG_semrelease rfl rfl (by decide) rfl wgLib.f_semrelease (x_semrelease_n link) (x_semrelease_b link) (x_semrelease_x link) (x_semrelease_f link) (by simp [Act.eval, smA]) hg.cellSm (hg.thaw 1)).trans (by rfl), 100, ?_⟩
    clear hg
    rw [hP]
    walk_nrm
    q_c stepG_region_end
    q_c stepG_inBlock
    q_reg
    q_val (.int .u32 1)
    q_val (.int .u32 0)
    q_val (.int .u32 0)
    q_c stepG_region_end
    q_c stepG_inLoop
    q_c stepG_seq
    q_c stepG_seq
    q_reg
    q_val (.int .u32 0)
    q_val (.bool false)
    q_c stepG_region_end
    q_cond false
    q_exit
    q_c stepG_end
    refine QuitsD.unwind_mark .enable rfl (by simp) rfl wgLib.f_enable (x_enable_n link) (x_enable_b link) (x_enable_x link) (x_enable_f link) ?_
    simp only [deafBehind_enable1]
    q_leave0 Try.func23
    q_c stepG_region_end
    q_c stepG_end
    refine QuitsD.leaveD rfl rfl Try.func39 rfl rfl ?_
    exact ends24 _ _ _
  · clear eW hg hw h₁
    unfold WGone
    rw [hP]
    rcases Nat.eq_zero_or_pos v with rfl | hvp
    · obtain rfl : wt = 0 := by omega
      rw [show (((0 : Nat) : Int) * KK + ((0 : Nat) : Int)) = 0 by simp]
      clear hnl hwt hv
      refine ⟨200, ?_⟩
      walk_nrm
      q_vn (.int .u64 0)
      q_c stepG_region_end
      q_c stepG_ret'
      q_leave1 Try.func33
      q_vn (.int .u64 0)
      q_c stepG_region_end
      q_c stepG_seq
      q_c stepG_seq
      q_reg
      q_vn (.int .u64 0)
      q_vn (.int .u64 0)
      q_vn (.bool false)
      q_vn (.bool false)
      q_skip
      q_skip
      q_vn (.bool false)
      q_c stepG_region_end
      q_cond false
      q_c stepG_skip
      q_c stepG_seq
      q_reg
      q_vn (.int .u64 0)
      q_vn (.int .u64 0)
      q_vn (.int .i32 0)
      q_vn (.int .i32 0)
      q_c stepG_region_end
      q_c stepG_seq
      q_reg
      q_vn (.int .u64 0)
      q_vn (.int .u64 0)
      q_vn (.int .u32 0)
      q_vn (.int .u32 0)
      q_c stepG_region_end
      q_c stepG_seq
      q_c stepG_seq
      q_reg
      q_vn (.bool true)
      q_vn (.int .i64 (-1))
      q_vn (.bool false)
      q_vn (.bool false)
      q_vn (.bool false)
      q_skip
      q_skip
      q_skip
      q_skip
      q_vn (.bool false)
      q_c stepG_region_end
      q_cond false
      q_c stepG_skip
      q_c stepG_seq
      q_c stepG_seq
      q_reg
      q_vn (.int .i32 0)
      q_vn (.bool false)
      q_c stepG_region_end
      q_cond false
      q_c stepG_skip
      q_c stepG_seq
      q_c stepG_seq
      q_reg
      q_vn (.int .u32 0)
      q_vn (.bool false)
      q_vn (.bool false)
      q_skip
      q_skip
      q_vn (.bool false)
      q_vn (.bool false)
      q_skip
      q_skip
      q_skip
      q_skip
      q_vn (.bool false)
      q_c stepG_region_end
      q_cond false
      q_c stepG_skip
      q_c stepG_seq
      q_c stepG_seq
      q_reg
      q_vn (.int .i32 0)
      q_vn (.bool false)
      q_vn (.bool false)
      q_vn (.int .u32 0)
      q_vn (.bool true)
      q_vn (.bool true)
      q_c stepG_region_end
      q_cond true
      q_c stepG_ret'
      refine QuitsD.unwind_mark .enable rfl (by simp) rfl wgLib.f_enable (x_enable_n link) (x_enable_b link) (x_enable_x link) (x_enable_f link) ?_
      simp only [deafBehind_enable1]
      q_leave0 Try.func23
      q_c stepG_region_end
      q_c stepG_end
      refine QuitsD.leaveD rfl rfl Try.func39 rfl rfl ?_
      exact ends24 _ _ _
    · clear hnl
      obtain rfl | rfl : wt = 0 ∨ wt = 1 := by omega
      · skip
        obtain ⟨S, hS⟩ : ∃ S : Int, S = (v : Int) * KK + ((0 : Nat) : Int) := ⟨_, rfl⟩
        rw [← hS]
        have a1 : S / 4294967296 = (v : Int) := by rw [hS]; simp only [KK]; omega
        have a2 : 0 ≤ S ∧ S < 9223372036854775808 := by rw [hS]; simp only [KK]; omega
        have b1 : bits .and .u64 S 2147483648 = 0 := by rw [hS]; have := Go.ConcN.st_flag v 0 (by omega) (by omega); simpa [KK] using this
        have b2 : bits .and .u64 S 2147483647 = 0 := by rw [hS]; have := Go.ConcN.st_waiters v 0 (by omega) (by omega); simpa [KK] using this
        clear hS
        refine ⟨200, ?_⟩
        walk_nrm
        q_vn (.int .u64 S)
        q_c stepG_region_end
        q_c stepG_ret'
        q_leave1 Try.func33
        q_vn (.int .u64 S)
        q_c stepG_region_end
        q_c stepG_seq
        q_c stepG_seq
        q_reg
        q_vn (.int .u64 S)
        q_vn (.int .u64 0)
        q_vn (.bool false)
        q_vn (.bool false)
        q_skip
        q_skip
        q_vn (.bool false)
        q_c stepG_region_end
        q_cond false
        q_c stepG_skip
        q_c stepG_seq
        q_reg
        q_vn (.int .u64 S)
        q_vn (.int .u64 (v:Int))
        q_vn (.int .i32 (v:Int))
        q_vn (.int .i32 (v:Int))
        q_c stepG_region_end
        q_c stepG_seq
        q_reg
        q_vn (.int .u64 S)
        q_vn (.int .u64 0)
        q_vn (.int .u32 0)
        q_vn (.int .u32 0)
        q_c stepG_region_end
        q_c stepG_seq
        q_c stepG_seq
        q_reg
        q_vn (.bool true)
        q_vn (.int .i64 (-1))
        q_vn (.bool false)
        q_vn (.bool false)
        q_vn (.bool false)
        q_skip
        q_skip
        q_skip
        q_skip
        q_vn (.bool false)
        q_c stepG_region_end
        q_cond false
        q_c stepG_skip
        q_c stepG_seq
        q_c stepG_seq
        q_reg
        q_vn (.int .i32 (v:Int))
        q_vn (.bool false)
        q_c stepG_region_end
        q_cond false
        q_c stepG_skip
        q_c stepG_seq
        q_c stepG_seq
        q_reg
        q_vn (.int .u32 0)
        q_vn (.bool false)
        q_vn (.bool false)
        q_skip
        q_skip
        q_vn (.bool false)
        q_vn (.bool false)
        q_skip
        q_skip
        q_skip
        q_skip
        q_vn (.bool false)
        q_c stepG_region_end
        q_cond false
        q_c stepG_skip
        q_c stepG_seq
        q_c stepG_seq
        q_reg
        q_vn (.int .i32 (v:Int))
        q_vn (.bool true)
        q_vn (.bool true)
        q_skip
        q_skip
        q_vn (.bool true)
        q_c stepG_region_end
        q_cond true
        q_c stepG_ret'
        refine QuitsD.unwind_mark .enable rfl (by simp) rfl wgLib.f_enable (x_enable_n link) (x_enable_b link) (x_enable_x link) (x_enable_f link) ?_
        simp only [deafBehind_enable1]
        q_leave0 Try.func23
        q_c stepG_region_end
        q_c stepG_end
        refine QuitsD.leaveD rfl rfl Try.func39 rfl rfl ?_
        exact ends24 _ _ _
      · skip
        obtain ⟨S, hS⟩ : ∃ S : Int, S = (v : Int) * KK + ((1 : Nat) : Int) := ⟨_, rfl⟩
        rw [← hS]
        have a1 : S / 4294967296 = (v : Int) := by rw [hS]; simp only [KK]; omega
        have a2 : 0 ≤ S ∧ S < 9223372036854775808 := by rw [hS]; simp only [KK]; omega
        have b1 : bits .and .u64 S 2147483648 = 0 := by rw [hS]; have := Go.ConcN.st_flag v 1 (by omega) (by omega); simpa [KK] using this
        have b2 : bits .and .u64 S 2147483647 = 1 := by rw [hS]; have := Go.ConcN.st_waiters v 1 (by omega) (by omega); simpa [KK] using this
        clear hS
        refine ⟨200, ?_⟩
        walk_nrm
        q_vn (.int .u64 S)
        q_c stepG_region_end
        q_c stepG_ret'
        q_leave1 Try.func33
        q_vn (.int .u64 S)
        q_c stepG_region_end
        q_c stepG_seq
        q_c stepG_seq
        q_reg
        q_vn (.int .u64 S)
        q_vn (.int .u64 0)
        q_vn (.bool false)
        q_vn (.bool false)
        q_skip
        q_skip
        q_vn (.bool false)
        q_c stepG_region_end
        q_cond false
        q_c stepG_skip
        q_c stepG_seq
        q_reg
        q_vn (.int .u64 S)
        q_vn (.int .u64 (v:Int))
        q_vn (.int .i32 (v:Int))
        q_vn (.int .i32 (v:Int))
        q_c stepG_region_end
        q_c stepG_seq
        q_reg
        q_vn (.int .u64 S)
        q_vn (.int .u64 1)
        q_vn (.int .u32 1)
        q_vn (.int .u32 1)
        q_c stepG_region_end
        q_c stepG_seq
        q_c stepG_seq
        q_reg
        q_vn (.bool true)
        q_vn (.int .i64 (-1))
        q_vn (.bool false)
        q_vn (.bool false)
        q_vn (.bool false)
        q_skip
        q_skip
        q_skip
        q_skip
        q_vn (.bool false)
        q_c stepG_region_end
        q_cond false
        q_c stepG_skip
        q_c stepG_seq
        q_c stepG_seq
        q_reg
        q_vn (.int .i32 (v:Int))
        q_vn (.bool false)
        q_c stepG_region_end
        q_cond false
        q_c stepG_skip
        q_c stepG_seq
        q_c stepG_seq
        q_reg
        q_vn (.int .u32 1)
        q_vn (.bool true)
        q_vn (.bool true)
        q_vn (.int .i64 (-1))
        q_vn (.bool false)
        q_vn (.bool false)
        q_vn (.bool false)
        q_skip
        q_skip
        q_skip
        q_skip
        q_vn (.bool false)
        q_c stepG_region_end
        q_cond false
        q_c stepG_skip
        q_c stepG_seq
        q_c stepG_seq
        q_reg
        q_vn (.int .i32 (v:Int))
        q_vn (.bool true)
        q_vn (.bool true)
        q_skip
        q_skip
        q_vn (.bool true)
        q_c stepG_region_end
        q_cond true
        q_c stepG_ret'
        refine QuitsD.unwind_mark .enable rfl (by simp) rfl wgLib.f_enable (x_enable_n link) (x_enable_b link) (x_enable_x link) (x_enable_f link) ?_
        simp only [deafBehind_enable1]
        q_leave0 Try.func23
        q_c stepG_region_end
        q_c stepG_end
        refine QuitsD.leaveD rfl rfl Try.func39 rfl rfl ?_
        exact ends24 _ _ _

end Go.Proofs.Ytdpagejckahkkaa.Net
