/- Goroutine 0's Wait, while the senders are at work: from the call to the acquire; and on to the return. -/
import Derived.Test.YtdpagejckahkkaaAddW
import Derived.Lib.Hide
set_option maxRecDepth 100000
set_option linter.unusedSimpArgs false
set_option linter.unusedVariables false
namespace Go.Proofs.Ytdpagejckahkkaa.Net
open Go Go.Conc Go.RowKit Go.ConcR.Gen
open Go.ConcN (ShN WgLive)
open Go.ConcR (stA smA rd wr mk WgAt KK)

noncomputable def body25 : Code := Try.f25.body.getD .skip
noncomputable def L25 : Code := match body25 with | .seq _ (.block _ (.loop c)) => c | _ => .skip

section
variable (C : MCfg) (F : World → Prop) (b₀ : Frame) (a₀ : Act) (ops₀ : Array Oper) (i₀ : Nat) (rest₀ : List Nat) (k₀ : List Item) (cs : List Frame)
/-- At the head of Wait's loop. -/
def AnchW (g : Goroutine) (w : World) : Prop := F w ∧ ∃ j1 j2 j3 j4 j5 j6 j7 j8 j9 j10 j11 j12 j13 j14 j15 j16 j17 j18 j19 j20 j21 j22 j23 j24 j25 j26 j27 j28 j29 j30 j31 j32 j33 j34 j35 j36 j37 j38 j39 j40 j41 j42 j43 j44 j45 j46 j47 j48 j49 j50 j51 j52 j53 j54 j55 j56 j57 j58 j59 j60 j61 j62 j63 j64 j65 j66 j67 j68 j69 j70 j71 j72 j73 j74 j75 j76 j77 j78 j79 j80 j81 j82 j83 : Value, g = G ((base 25).at ⟨#[.pointer (some ⟨C.Wg, 0, none⟩), j1, j2, j3, j4, j5, j6, j7, j8, j9, j10, j11, j12, j13, j14, j15, j16, j17, j18, j19, j20, j21, j22, j23, j24, j25, j26, j27, j28, j29, j30, j31, j32, j33, j34, j35, j36, j37, j38, j39, j40, j41, j42, j43, j44, j45, j46, j47, j48, j49, j50, j51, j52, j53, j54, j55, j56, j57, j58, j59, j60, j61, j62, j63, j64, j65, j66, j67, j68, j69, j70, j71, j72, j73, j74, j75, j76, j77, j78, j79, j80, j81, j82, j83], []⟩ [.code L25, .inLoop L25, .inBlock 0]) (b₀.at a₀ (.inRegion ops₀ (i₀ :: rest₀) :: k₀) :: cs)
/-- It comes back. -/
def FinW (g : Goroutine) (w : World) : Prop := F w ∧ ∀ (S' : Loc → Prop) (X : (Loc → Prop) → Goroutine → World → Prop), Reach Try.prog S' (G (b₀.at (a₀.put ((ops₀[i₀]?).bind (·.dst)) (.tuple #[])) (.inRegion ops₀ rest₀ :: k₀)) cs) w X → Reach Try.prog S' g w X
end

set_option maxHeartbeats 16000000 in
theorem wait_head {C : MCfg} (hP : C.P = Try.prog) (hty : C.ty = 47) (hap : ∀ l, C.Still l → ¬ ShN C.Wg l) (hB : C.Wg < C.B) {F : World → Prop} (hFr : ∀ w w₁, AsideM C C.T w w₁ → F w → F w₁) (hl : ∀ w, F w → WgLive 47 C.Wg w) {b₀ : Frame} {a₀ : Act} {ops₀ : Array Oper} {i₀ : Nat} {rest₀ : List Nat} {k₀ : List Item} {cs : List Frame}
    (g : Goroutine) (w : World) (h : AnchW C F b₀ a₀ ops₀ i₀ rest₀ k₀ cs g w) : Goes C.P true (AsideM C C.T) (D0 C C.T) (AtW1M C (FinW F b₀ a₀ ops₀ i₀ rest₀ k₀ cs) (AnchW C F b₀ a₀ ops₀ i₀ rest₀ k₀ cs)) 20 g w := by
  obtain ⟨hF, j1, j2, j3, j4, j5, j6, j7, j8, j9, j10, j11, j12, j13, j14, j15, j16, j17, j18, j19, j20, j21, j22, j23, j24, j25, j26, j27, j28, j29, j30, j31, j32, j33, j34, j35, j36, j37, j38, j39, j40, j41, j42, j43, j44, j45, j46, j47, j48, j49, j50, j51, j52, j53, j54, j55, j56, j57, j58, j59, j60, j61, j62, j63, j64, j65, j66, j67, j68, j69, j70, j71, j72, j73, j74, j75, j76, j77, j78, j79, j80, j81, j82, j83, rfl⟩ := h
  rw [hP]
  simp only [L25, body25, Try.f25, Option.getD_some]
  repeat (first
    | (refine Goes.step rfl (fun w₁ h₁ => ?_); replace hF := hFr _ _ h₁ hF; clear h₁; rw [stepG_region_end]; simp only [goes_go]; refine ⟨d0_none _, ?_⟩)
    | (refine Goes.step rfl (fun w₁ h₁ => ?_); replace hF := hFr _ _ h₁ hF; clear h₁; rw [stepG_skip]; simp only [goes_go]; refine ⟨d0_none _, ?_⟩)
    | (refine Goes.step rfl (fun w₁ h₁ => ?_); replace hF := hFr _ _ h₁ hF; clear h₁; rw [stepG_seq]; simp only [goes_go]; refine ⟨d0_none _, ?_⟩)
    | (refine Goes.step rfl (fun w₁ h₁ => ?_); replace hF := hFr _ _ h₁ hF; clear h₁; rw [stepG_block]; simp only [goes_go]; refine ⟨d0_none _, ?_⟩)
    | (refine Goes.step rfl (fun w₁ h₁ => ?_); replace hF := hFr _ _ h₁ hF; clear h₁; rw [stepG_inBlock]; simp only [goes_go]; refine ⟨d0_none _, ?_⟩)
    | (refine Goes.step rfl (fun w₁ h₁ => ?_); replace hF := hFr _ _ h₁ hF; clear h₁; rw [stepG_region]; simp only [goes_go, List.size_toArray, List.length_cons, List.length_nil, Nat.reduceAdd, Nat.zero_add, List.range, List.range.loop]; refine ⟨d0_none _, ?_⟩)
    | (refine Goes.step rfl (fun w₁ h₁ => ?_); replace hF := hFr _ _ h₁ hF; clear h₁; rw [stepG_cond (t := true) rfl]; simp only [goes_go, if_true, if_false, Bool.false_eq_true, ↓reduceIte]; refine ⟨d0_none _, ?_⟩)
    | (refine Goes.step rfl (fun w₁ h₁ => ?_); replace hF := hFr _ _ h₁ hF; clear h₁; rw [stepG_cond (t := false) rfl]; simp only [goes_go, if_true, if_false, Bool.false_eq_true, ↓reduceIte]; refine ⟨d0_none _, ?_⟩)
    | (refine Goes.step rfl (fun w₁ h₁ => ?_); replace hF := hFr _ _ h₁ hF; clear h₁; rw [stepG_unwanted rfl rfl]; simp only [goes_go]; refine ⟨d0_none _, ?_⟩; walk_nrm)
    | (refine Goes.step rfl (fun w₁ h₁ => ?_); replace hF := hFr _ _ h₁ hF; clear h₁; rw [stepG_defer rfl rfl (by decide) rfl]; simp only [goes_go]; refine ⟨d0_none _, ?_⟩; walk_nrm)
    | (refine Goes.step rfl (fun w₁ h₁ => ?_); replace hF := hFr _ _ h₁ hF; clear h₁; rw [stepG_entry_pure (.bool false) rfl rfl (by decide) rfl wgLib.f_inBubble (x_inBubble_n link) (x_inBubble_b link) (x_inBubble_x link) (x_inBubble_f link)]; simp only [goes_go]; refine ⟨d0_none _, ?_⟩; walk_nrm)
    | (refine Goes.step rfl (fun w₁ h₁ => ?_); replace hF := hFr _ _ h₁ hF; clear h₁; refine goes_oper_k rfl rfl (by decide) (fun K hK => ?_); go_simp; try w_num
       refine hK _ _ ⟨d0_evs _ ?_, ?_⟩
       · intro e he; have hm := mem_listed he; simp [go_sem] at hm
       clear hK K; try walk_nrm))
  refine Goes.step rfl (fun w₁ h₁ => ?_); replace hF := hFr _ _ h₁ hF; clear h₁
  refine goes_call rfl rfl (by decide) rfl Try.func35 (by rfl) rfl ⟨d0_none _, ?_⟩
  walk_nrmf Try.f35
  repeat (first
    | (refine Goes.step rfl (fun w₁ h₁ => ?_); replace hF := hFr _ _ h₁ hF; clear h₁; rw [stepG_region_end]; simp only [goes_go]; refine ⟨d0_none _, ?_⟩)
    | (refine Goes.step rfl (fun w₁ h₁ => ?_); replace hF := hFr _ _ h₁ hF; clear h₁; rw [stepG_skip]; simp only [goes_go]; refine ⟨d0_none _, ?_⟩)
    | (refine Goes.step rfl (fun w₁ h₁ => ?_); replace hF := hFr _ _ h₁ hF; clear h₁; rw [stepG_seq]; simp only [goes_go]; refine ⟨d0_none _, ?_⟩)
    | (refine Goes.step rfl (fun w₁ h₁ => ?_); replace hF := hFr _ _ h₁ hF; clear h₁; rw [stepG_block]; simp only [goes_go]; refine ⟨d0_none _, ?_⟩)
    | (refine Goes.step rfl (fun w₁ h₁ => ?_); replace hF := hFr _ _ h₁ hF; clear h₁; rw [stepG_inBlock]; simp only [goes_go]; refine ⟨d0_none _, ?_⟩)
    | (refine Goes.step rfl (fun w₁ h₁ => ?_); replace hF := hFr _ _ h₁ hF; clear h₁; rw [stepG_region]; simp only [goes_go, List.size_toArray, List.length_cons, List.length_nil, Nat.reduceAdd, Nat.zero_add, List.range, List.range.loop]; refine ⟨d0_none _, ?_⟩)
    | (refine Goes.step rfl (fun w₁ h₁ => ?_); replace hF := hFr _ _ h₁ hF; clear h₁; rw [stepG_cond (t := true) rfl]; simp only [goes_go, if_true, if_false, Bool.false_eq_true, ↓reduceIte]; refine ⟨d0_none _, ?_⟩)
    | (refine Goes.step rfl (fun w₁ h₁ => ?_); replace hF := hFr _ _ h₁ hF; clear h₁; rw [stepG_cond (t := false) rfl]; simp only [goes_go, if_true, if_false, Bool.false_eq_true, ↓reduceIte]; refine ⟨d0_none _, ?_⟩)
    | (refine Goes.step rfl (fun w₁ h₁ => ?_); replace hF := hFr _ _ h₁ hF; clear h₁; rw [stepG_unwanted rfl rfl]; simp only [goes_go]; refine ⟨d0_none _, ?_⟩; walk_nrm)
    | (refine Goes.step rfl (fun w₁ h₁ => ?_); replace hF := hFr _ _ h₁ hF; clear h₁; rw [stepG_defer rfl rfl (by decide) rfl]; simp only [goes_go]; refine ⟨d0_none _, ?_⟩; walk_nrm)
    | (refine Goes.step rfl (fun w₁ h₁ => ?_); replace hF := hFr _ _ h₁ hF; clear h₁; rw [stepG_entry_pure (.bool false) rfl rfl (by decide) rfl wgLib.f_inBubble (x_inBubble_n link) (x_inBubble_b link) (x_inBubble_x link) (x_inBubble_f link)]; simp only [goes_go]; refine ⟨d0_none _, ?_⟩; walk_nrm)
    | (refine Goes.step rfl (fun w₁ h₁ => ?_); replace hF := hFr _ _ h₁ hF; clear h₁; refine goes_oper_k rfl rfl (by decide) (fun K hK => ?_); go_simp; try w_num
       refine hK _ _ ⟨d0_evs _ ?_, ?_⟩
       · intro e he; have hm := mem_listed he; simp [go_sem] at hm
       clear hK K; try walk_nrm))
  refine Goes.stop (fun w₁ h₁ => ?_)
  replace hF := hFr _ _ h₁ hF
  clear h₁
  refine ⟨rfl, fun v hv hw => ?_⟩
  rw [hty] at hw
  rw [hP]
  rcases Nat.eq_zero_or_pos v with rfl | hvp
  · replace hw : WgAt 47 C.Wg w₁ 0 0 := by simpa using hw
    refine ⟨_, stepG_load_atomic (v := 0) rfl rfl (by decide) rfl wgLib.f_loadU64 (x_loadU64_n link) (x_loadU64_b link) (x_loadU64_x link) .u64 (x_loadU64_f link) rfl hw.cellSt, fun _ => ⟨80, ?_⟩, fun h => absurd rfl h⟩
    clear hw
    rw [hP]
    walk_nrm
    repeat (first
      | (refine Goes.step rfl (fun w₁ h₁ => ?_); replace hF := hFr _ _ h₁ hF; clear h₁; rw [stepG_region_end]; simp only [goes_go]; refine ⟨d0_none _, ?_⟩)
      | (refine Goes.step rfl (fun w₁ h₁ => ?_); replace hF := hFr _ _ h₁ hF; clear h₁; rw [stepG_skip]; simp only [goes_go]; refine ⟨d0_none _, ?_⟩)
      | (refine Goes.step rfl (fun w₁ h₁ => ?_); replace hF := hFr _ _ h₁ hF; clear h₁; rw [stepG_seq]; simp only [goes_go]; refine ⟨d0_none _, ?_⟩)
      | (refine Goes.step rfl (fun w₁ h₁ => ?_); replace hF := hFr _ _ h₁ hF; clear h₁; rw [stepG_block]; simp only [goes_go]; refine ⟨d0_none _, ?_⟩)
      | (refine Goes.step rfl (fun w₁ h₁ => ?_); replace hF := hFr _ _ h₁ hF; clear h₁; rw [stepG_inBlock]; simp only [goes_go]; refine ⟨d0_none _, ?_⟩)
      | (refine Goes.step rfl (fun w₁ h₁ => ?_); replace hF := hFr _ _ h₁ hF; clear h₁; rw [stepG_ret']; simp only [goes_go]; refine ⟨d0_none _, ?_⟩)
      | (refine Goes.step rfl (fun w₁ h₁ => ?_); replace hF := hFr _ _ h₁ hF; clear h₁; rw [stepG_region]; simp only [goes_go, List.size_toArray, List.length_cons, List.length_nil, Nat.reduceAdd, Nat.zero_add, List.range, List.range.loop]; refine ⟨d0_none _, ?_⟩)
      | (refine Goes.step rfl (fun w₁ h₁ => ?_); replace hF := hFr _ _ h₁ hF; clear h₁; rw [stepG_cond (t := true) rfl]; simp only [goes_go, if_true, if_false, Bool.false_eq_true, ↓reduceIte]; refine ⟨d0_none _, ?_⟩)
      | (refine Goes.step rfl (fun w₁ h₁ => ?_); replace hF := hFr _ _ h₁ hF; clear h₁; rw [stepG_cond (t := false) rfl]; simp only [goes_go, if_true, if_false, Bool.false_eq_true, ↓reduceIte]; refine ⟨d0_none _, ?_⟩)
      | (refine Goes.step rfl (fun w₁ h₁ => ?_); replace hF := hFr _ _ h₁ hF; clear h₁; rw [stepG_unwanted rfl rfl]; simp only [goes_go]; refine ⟨d0_none _, ?_⟩; walk_nrm)
      | (refine Goes.step rfl (fun w₁ h₁ => ?_); replace hF := hFr _ _ h₁ hF; clear h₁; rw [stepG_defer rfl rfl (by decide) rfl]; simp only [goes_go]; refine ⟨d0_none _, ?_⟩; walk_nrm)
      | (refine Goes.step rfl (fun w₁ h₁ => ?_); replace hF := hFr _ _ h₁ hF; clear h₁; rw [stepG_entry_pure (.bool false) rfl rfl (by decide) rfl wgLib.f_inBubble (x_inBubble_n link) (x_inBubble_b link) (x_inBubble_x link) (x_inBubble_f link)]; simp only [goes_go]; refine ⟨d0_none _, ?_⟩; walk_nrm)
      | (refine Goes.step rfl (fun w₁ h₁ => ?_); replace hF := hFr _ _ h₁ hF; clear h₁; refine goes_oper_k rfl rfl (by decide) (fun K hK => ?_); go_simp; try w_num
         refine hK _ _ ⟨d0_evs _ ?_, ?_⟩
         · intro e he; have hm := mem_listed he; simp [go_sem] at hm
         clear hK K; try walk_nrm))
    refine Goes.step rfl (fun w₁ h₁ => ?_); replace hF := hFr _ _ h₁ hF; clear h₁
    refine goes_leave1 rfl rfl Try.func35 rfl ⟨d0_none _, ?_⟩
    walk_nrm
    repeat (first
      | (refine Goes.step rfl (fun w₁ h₁ => ?_); replace hF := hFr _ _ h₁ hF; clear h₁; rw [stepG_region_end]; simp only [goes_go]; refine ⟨d0_none _, ?_⟩)
      | (refine Goes.step rfl (fun w₁ h₁ => ?_); replace hF := hFr _ _ h₁ hF; clear h₁; rw [stepG_skip]; simp only [goes_go]; refine ⟨d0_none _, ?_⟩)
      | (refine Goes.step rfl (fun w₁ h₁ => ?_); replace hF := hFr _ _ h₁ hF; clear h₁; rw [stepG_seq]; simp only [goes_go]; refine ⟨d0_none _, ?_⟩)
      | (refine Goes.step rfl (fun w₁ h₁ => ?_); replace hF := hFr _ _ h₁ hF; clear h₁; rw [stepG_block]; simp only [goes_go]; refine ⟨d0_none _, ?_⟩)
      | (refine Goes.step rfl (fun w₁ h₁ => ?_); replace hF := hFr _ _ h₁ hF; clear h₁; rw [stepG_inBlock]; simp only [goes_go]; refine ⟨d0_none _, ?_⟩)
      | (refine Goes.step rfl (fun w₁ h₁ => ?_); replace hF := hFr _ _ h₁ hF; clear h₁; rw [stepG_region]; simp only [goes_go, List.size_toArray, List.length_cons, List.length_nil, Nat.reduceAdd, Nat.zero_add, List.range, List.range.loop]; refine ⟨d0_none _, ?_⟩)
      | (refine Goes.step rfl (fun w₁ h₁ => ?_); replace hF := hFr _ _ h₁ hF; clear h₁; rw [stepG_cond (t := true) rfl]; simp only [goes_go, if_true, if_false, Bool.false_eq_true, ↓reduceIte]; refine ⟨d0_none _, ?_⟩)
      | (refine Goes.step rfl (fun w₁ h₁ => ?_); replace hF := hFr _ _ h₁ hF; clear h₁; rw [stepG_cond (t := false) rfl]; simp only [goes_go, if_true, if_false, Bool.false_eq_true, ↓reduceIte]; refine ⟨d0_none _, ?_⟩)
      | (refine Goes.step rfl (fun w₁ h₁ => ?_); replace hF := hFr _ _ h₁ hF; clear h₁; rw [stepG_unwanted rfl rfl]; simp only [goes_go]; refine ⟨d0_none _, ?_⟩; walk_nrm)
      | (refine Goes.step rfl (fun w₁ h₁ => ?_); replace hF := hFr _ _ h₁ hF; clear h₁; rw [stepG_defer rfl rfl (by decide) rfl]; simp only [goes_go]; refine ⟨d0_none _, ?_⟩; walk_nrm)
      | (refine Goes.step rfl (fun w₁ h₁ => ?_); replace hF := hFr _ _ h₁ hF; clear h₁; rw [stepG_entry_pure (.bool false) rfl rfl (by decide) rfl wgLib.f_inBubble (x_inBubble_n link) (x_inBubble_b link) (x_inBubble_x link) (x_inBubble_f link)]; simp only [goes_go]; refine ⟨d0_none _, ?_⟩; walk_nrm)
      | (refine Goes.step rfl (fun w₁ h₁ => ?_); replace hF := hFr _ _ h₁ hF; clear h₁; refine goes_oper_k rfl rfl (by decide) (fun K hK => ?_); go_simp; try w_num
         refine hK _ _ ⟨d0_evs _ ?_, ?_⟩
         · intro e he; have hm := mem_listed he; simp [go_sem] at hm
         clear hK K; try walk_nrm))
    refine Goes.stop (fun w₅ h₅ => ?_)
    replace hF := hFr _ _ h₅ hF
    clear h₅
    refine ⟨rfl, _, by rw [hP]; exact stepG_mark0 .enable (by simp) rfl rfl (by decide) rfl wgLib.f_enable (x_enable_n link) (x_enable_b link) (x_enable_x link) (x_enable_f link), 20, ?_⟩
    rw [hP]
    walk_nrm
    repeat (first
      | (refine Goes.step rfl (fun w₁ h₁ => ?_); replace hF := hFr _ _ h₁ hF; clear h₁; rw [stepG_region_end]; simp only [goes_go]; refine ⟨d0_none _, ?_⟩)
      | (refine Goes.step rfl (fun w₁ h₁ => ?_); replace hF := hFr _ _ h₁ hF; clear h₁; rw [stepG_skip]; simp only [goes_go]; refine ⟨d0_none _, ?_⟩)
      | (refine Goes.step rfl (fun w₁ h₁ => ?_); replace hF := hFr _ _ h₁ hF; clear h₁; rw [stepG_seq]; simp only [goes_go]; refine ⟨d0_none _, ?_⟩)
      | (refine Goes.step rfl (fun w₁ h₁ => ?_); replace hF := hFr _ _ h₁ hF; clear h₁; rw [stepG_block]; simp only [goes_go]; refine ⟨d0_none _, ?_⟩)
      | (refine Goes.step rfl (fun w₁ h₁ => ?_); replace hF := hFr _ _ h₁ hF; clear h₁; rw [stepG_inBlock]; simp only [goes_go]; refine ⟨d0_none _, ?_⟩)
      | (refine Goes.step rfl (fun w₁ h₁ => ?_); replace hF := hFr _ _ h₁ hF; clear h₁; rw [stepG_region]; simp only [goes_go, List.size_toArray, List.length_cons, List.length_nil, Nat.reduceAdd, Nat.zero_add, List.range, List.range.loop]; refine ⟨d0_none _, ?_⟩)
      | (refine Goes.step rfl (fun w₁ h₁ => ?_); replace hF := hFr _ _ h₁ hF; clear h₁; rw [stepG_cond (t := true) rfl]; simp only [goes_go, if_true, if_false, Bool.false_eq_true, ↓reduceIte]; refine ⟨d0_none _, ?_⟩)
      | (refine Goes.step rfl (fun w₁ h₁ => ?_); replace hF := hFr _ _ h₁ hF; clear h₁; rw [stepG_cond (t := false) rfl]; simp only [goes_go, if_true, if_false, Bool.false_eq_true, ↓reduceIte]; refine ⟨d0_none _, ?_⟩)
      | (refine Goes.step rfl (fun w₁ h₁ => ?_); replace hF := hFr _ _ h₁ hF; clear h₁; rw [stepG_unwanted rfl rfl]; simp only [goes_go]; refine ⟨d0_none _, ?_⟩; walk_nrm)
      | (refine Goes.step rfl (fun w₁ h₁ => ?_); replace hF := hFr _ _ h₁ hF; clear h₁; rw [stepG_defer rfl rfl (by decide) rfl]; simp only [goes_go]; refine ⟨d0_none _, ?_⟩; walk_nrm)
      | (refine Goes.step rfl (fun w₁ h₁ => ?_); replace hF := hFr _ _ h₁ hF; clear h₁; rw [stepG_entry_pure (.bool false) rfl rfl (by decide) rfl wgLib.f_inBubble (x_inBubble_n link) (x_inBubble_b link) (x_inBubble_x link) (x_inBubble_f link)]; simp only [goes_go]; refine ⟨d0_none _, ?_⟩; walk_nrm)
      | (refine Goes.step rfl (fun w₁ h₁ => ?_); replace hF := hFr _ _ h₁ hF; clear h₁; refine goes_oper_k rfl rfl (by decide) (fun K hK => ?_); go_simp; try w_num
         refine hK _ _ ⟨d0_evs _ ?_, ?_⟩
         · intro e he; have hm := mem_listed he; simp [go_sem] at hm
         clear hK K; try walk_nrm))
    refine Goes.step rfl (fun w₁ h₁ => ?_); replace hF := hFr _ _ h₁ hF; clear h₁
    have hc := (Go.ConcN.Gen.WgLive.cell0 (hl _ hF)).choose_spec
    have hcv := run_convert_to_unsafe (P := Try.prog) wgLib.underlying_tWgP wgLib.underlying_tUP wgLib.room_tWg hc
    have hce := fun es => events_convert_to_unsafe (P := Try.prog) wgLib.underlying_tWgP wgLib.underlying_tUP wgLib.room_tWg hc es
    refine goes_oper_k rfl rfl (by decide) (fun K hK => ?_)
    go_simp
    refine hK _ _ ⟨d0_evs _ (fun e he => by (have hm := mem_listed he; simp [go_sem, *] at hm)), ?_⟩; clear hK K hcv hce hc
    try walk_nrm
    refine Goes.stop (fun w₆ h₆ => ?_)
    replace hF := hFr _ _ h₆ hF
    clear h₆
    refine ⟨rfl, _, by rw [hP]; exact stepG_markAt .acquire (by simp) rfl rfl (by decide) rfl wgLib.f_acquire (x_acquire_n link) (x_acquire_b link) (x_acquire_x link) (x_acquire_f link) (by simp [Act.eval, stA]), ?_⟩
    refine ⟨hF, fun S' X hX => ?_⟩
    walk_nrm
    repeat (first
      | refine r_end ?_ | refine r_skip ?_ | refine r_seq ?_ | refine r_block ?_ | refine r_inBlock ?_
      | (refine r_region ?_; simp only [List.size_toArray, List.length_cons, List.length_nil, Nat.reduceAdd, Nat.zero_add, List.range, List.range.loop])
      | (refine r_cond (t := true) rfl ?_; simp only [if_true, if_false, Bool.false_eq_true, ↓reduceIte])
      | (refine r_cond (t := false) rfl ?_; simp only [if_true, if_false, Bool.false_eq_true, ↓reduceIte])
      | (refine r_unwanted rfl rfl ?_; walk_nrm)
      | (refine r_op rfl rfl (by decide) (fun w₁ h₁ K hK => ?_); obtain ⟨dd, hdd⟩ := h₁; subst hdd; (try simp only [at_at']); go_simp; try w_num
         refine hK _ _ ⟨fun e he => ?_, ?_⟩
         · have hm := mem_listed he; simp [go_sem] at hm
         clear hK K; try walk_nrm))
    refine r_ret ?_
    refine r_ctl rfl (fun w₁ => ?_) (Reach.at hX ⟨_, rfl⟩)
    rw [stepG_leave rfl rfl Try.func25 (results_none rfl _ _ _) (events_results_none rfl _ _), Frame.finish_at]
  · obtain ⟨V, hV⟩ : ∃ V : Int, V = (v : Int) := ⟨_, rfl⟩
    obtain ⟨S, hS⟩ : ∃ S : Int, S = V * KK := ⟨_, rfl⟩
    rw [← hV, ← hS] at hw
    have a1 : S / 4294967296 = V := by rw [hS]; simp only [KK]; omega
    have b1 : bits .and .u64 S 2147483648 = 0 := by rw [hS, hV]; have := Go.ConcN.st_flag v 0 (by omega) (by omega); simpa [KK] using this
    have b2 : bits .and .u64 S 2147483647 = 0 := by rw [hS, hV]; have := Go.ConcN.st_waiters v 0 (by omega) (by omega); simpa [KK] using this
    have c1 : IntKind.i32.wrap V = V := by rw [IntKind.wrap_i32]; omega
    have c2 : IntKind.u64.wrap (S + 1) = S + 1 := by rw [IntKind.wrap_u64, hS]; simp only [KK]; omega
    have hV1 : 0 < V := by omega
    have hV2 : V < 2147483648 := by omega
    have q5 : (V == 0) = false := by simp; omega
    have q6 : decide (V = 0) = false := decide_eq_false (by omega)
    have HV := Lib.hid hV
    have HS := Lib.hid hS
    clear hV hS
    refine ⟨_, stepG_load_atomic (v := S) rfl rfl (by decide) rfl wgLib.f_loadU64 (x_loadU64_n link) (x_loadU64_b link) (x_loadU64_x link) .u64 (x_loadU64_f link) rfl hw.cellSt, fun h => absurd h (by omega), fun _ => ⟨80, ?_⟩⟩
    clear hw
    rw [hP]
    walk_nrm
    repeat (first
      | (refine Goes.step rfl (fun w₁ h₁ => ?_); replace hF := hFr _ _ h₁ hF; clear h₁; rw [stepG_region_end]; simp only [goes_go]; refine ⟨d0_none _, ?_⟩)
      | (refine Goes.step rfl (fun w₁ h₁ => ?_); replace hF := hFr _ _ h₁ hF; clear h₁; rw [stepG_skip]; simp only [goes_go]; refine ⟨d0_none _, ?_⟩)
      | (refine Goes.step rfl (fun w₁ h₁ => ?_); replace hF := hFr _ _ h₁ hF; clear h₁; rw [stepG_seq]; simp only [goes_go]; refine ⟨d0_none _, ?_⟩)
      | (refine Goes.step rfl (fun w₁ h₁ => ?_); replace hF := hFr _ _ h₁ hF; clear h₁; rw [stepG_block]; simp only [goes_go]; refine ⟨d0_none _, ?_⟩)
      | (refine Goes.step rfl (fun w₁ h₁ => ?_); replace hF := hFr _ _ h₁ hF; clear h₁; rw [stepG_inBlock]; simp only [goes_go]; refine ⟨d0_none _, ?_⟩)
      | (refine Goes.step rfl (fun w₁ h₁ => ?_); replace hF := hFr _ _ h₁ hF; clear h₁; rw [stepG_ret']; simp only [goes_go]; refine ⟨d0_none _, ?_⟩)
      | (refine Goes.step rfl (fun w₁ h₁ => ?_); replace hF := hFr _ _ h₁ hF; clear h₁; rw [stepG_region]; simp only [goes_go, List.size_toArray, List.length_cons, List.length_nil, Nat.reduceAdd, Nat.zero_add, List.range, List.range.loop]; refine ⟨d0_none _, ?_⟩)
      | (refine Goes.step rfl (fun w₁ h₁ => ?_); replace hF := hFr _ _ h₁ hF; clear h₁; rw [stepG_cond (t := true) rfl]; simp only [goes_go, if_true, if_false, Bool.false_eq_true, ↓reduceIte]; refine ⟨d0_none _, ?_⟩)
      | (refine Goes.step rfl (fun w₁ h₁ => ?_); replace hF := hFr _ _ h₁ hF; clear h₁; rw [stepG_cond (t := false) rfl]; simp only [goes_go, if_true, if_false, Bool.false_eq_true, ↓reduceIte]; refine ⟨d0_none _, ?_⟩)
      | (refine Goes.step rfl (fun w₁ h₁ => ?_); replace hF := hFr _ _ h₁ hF; clear h₁; rw [stepG_unwanted rfl rfl]; simp only [goes_go]; refine ⟨d0_none _, ?_⟩; walk_nrm)
      | (refine Goes.step rfl (fun w₁ h₁ => ?_); replace hF := hFr _ _ h₁ hF; clear h₁; rw [stepG_defer rfl rfl (by decide) rfl]; simp only [goes_go]; refine ⟨d0_none _, ?_⟩; walk_nrm)
      | (refine Goes.step rfl (fun w₁ h₁ => ?_); replace hF := hFr _ _ h₁ hF; clear h₁; rw [stepG_entry_pure (.bool false) rfl rfl (by decide) rfl wgLib.f_inBubble (x_inBubble_n link) (x_inBubble_b link) (x_inBubble_x link) (x_inBubble_f link)]; simp only [goes_go]; refine ⟨d0_none _, ?_⟩; walk_nrm)
      | (refine Goes.step rfl (fun w₁ h₁ => ?_); replace hF := hFr _ _ h₁ hF; clear h₁; refine goes_oper_k rfl rfl (by decide) (fun K hK => ?_); go_simp; try w_num
         refine hK _ _ ⟨d0_evs _ ?_, ?_⟩
         · intro e he; have hm := mem_listed he; simp [go_sem] at hm
         clear hK K; try walk_nrm))
    refine Goes.step rfl (fun w₁ h₁ => ?_); replace hF := hFr _ _ h₁ hF; clear h₁
    refine goes_leave1 rfl rfl Try.func35 rfl ⟨d0_none _, ?_⟩
    walk_nrm
    repeat (first
      | (refine Goes.step rfl (fun w₁ h₁ => ?_); replace hF := hFr _ _ h₁ hF; clear h₁; rw [stepG_region_end]; simp only [goes_go]; refine ⟨d0_none _, ?_⟩)
      | (refine Goes.step rfl (fun w₁ h₁ => ?_); replace hF := hFr _ _ h₁ hF; clear h₁; rw [stepG_skip]; simp only [goes_go]; refine ⟨d0_none _, ?_⟩)
      | (refine Goes.step rfl (fun w₁ h₁ => ?_); replace hF := hFr _ _ h₁ hF; clear h₁; rw [stepG_seq]; simp only [goes_go]; refine ⟨d0_none _, ?_⟩)
      | (refine Goes.step rfl (fun w₁ h₁ => ?_); replace hF := hFr _ _ h₁ hF; clear h₁; rw [stepG_block]; simp only [goes_go]; refine ⟨d0_none _, ?_⟩)
      | (refine Goes.step rfl (fun w₁ h₁ => ?_); replace hF := hFr _ _ h₁ hF; clear h₁; rw [stepG_inBlock]; simp only [goes_go]; refine ⟨d0_none _, ?_⟩)
      | (refine Goes.step rfl (fun w₁ h₁ => ?_); replace hF := hFr _ _ h₁ hF; clear h₁; rw [stepG_region]; simp only [goes_go, List.size_toArray, List.length_cons, List.length_nil, Nat.reduceAdd, Nat.zero_add, List.range, List.range.loop]; refine ⟨d0_none _, ?_⟩)
      | (refine Goes.step rfl (fun w₁ h₁ => ?_); replace hF := hFr _ _ h₁ hF; clear h₁; rw [stepG_cond (t := true) rfl]; simp only [goes_go, if_true, if_false, Bool.false_eq_true, ↓reduceIte]; refine ⟨d0_none _, ?_⟩)
      | (refine Goes.step rfl (fun w₁ h₁ => ?_); replace hF := hFr _ _ h₁ hF; clear h₁; rw [stepG_cond (t := false) rfl]; simp only [goes_go, if_true, if_false, Bool.false_eq_true, ↓reduceIte]; refine ⟨d0_none _, ?_⟩)
      | (refine Goes.step rfl (fun w₁ h₁ => ?_); replace hF := hFr _ _ h₁ hF; clear h₁; rw [stepG_unwanted rfl rfl]; simp only [goes_go]; refine ⟨d0_none _, ?_⟩; walk_nrm)
      | (refine Goes.step rfl (fun w₁ h₁ => ?_); replace hF := hFr _ _ h₁ hF; clear h₁; rw [stepG_defer rfl rfl (by decide) rfl]; simp only [goes_go]; refine ⟨d0_none _, ?_⟩; walk_nrm)
      | (refine Goes.step rfl (fun w₁ h₁ => ?_); replace hF := hFr _ _ h₁ hF; clear h₁; rw [stepG_entry_pure (.bool false) rfl rfl (by decide) rfl wgLib.f_inBubble (x_inBubble_n link) (x_inBubble_b link) (x_inBubble_x link) (x_inBubble_f link)]; simp only [goes_go]; refine ⟨d0_none _, ?_⟩; walk_nrm)
      | (refine Goes.step rfl (fun w₁ h₁ => ?_); replace hF := hFr _ _ h₁ hF; clear h₁; refine goes_oper_k rfl rfl (by decide) (fun K hK => ?_); go_simp; try w_num
         refine hK _ _ ⟨d0_evs _ ?_, ?_⟩
         · intro e he; have hm := mem_listed he; simp [go_sem] at hm
         clear hK K; try walk_nrm))
    refine Goes.step rfl (fun w₁ h₁ => ?_); replace hF := hFr _ _ h₁ hF; clear h₁
    refine goes_call rfl rfl (by decide) rfl Try.func42 (by rfl) rfl ⟨d0_none _, ?_⟩
    walk_nrmf Try.f42
    repeat (first
      | (refine Goes.step rfl (fun w₁ h₁ => ?_); replace hF := hFr _ _ h₁ hF; clear h₁; rw [stepG_region_end]; simp only [goes_go]; refine ⟨d0_none _, ?_⟩)
      | (refine Goes.step rfl (fun w₁ h₁ => ?_); replace hF := hFr _ _ h₁ hF; clear h₁; rw [stepG_skip]; simp only [goes_go]; refine ⟨d0_none _, ?_⟩)
      | (refine Goes.step rfl (fun w₁ h₁ => ?_); replace hF := hFr _ _ h₁ hF; clear h₁; rw [stepG_seq]; simp only [goes_go]; refine ⟨d0_none _, ?_⟩)
      | (refine Goes.step rfl (fun w₁ h₁ => ?_); replace hF := hFr _ _ h₁ hF; clear h₁; rw [stepG_block]; simp only [goes_go]; refine ⟨d0_none _, ?_⟩)
      | (refine Goes.step rfl (fun w₁ h₁ => ?_); replace hF := hFr _ _ h₁ hF; clear h₁; rw [stepG_inBlock]; simp only [goes_go]; refine ⟨d0_none _, ?_⟩)
      | (refine Goes.step rfl (fun w₁ h₁ => ?_); replace hF := hFr _ _ h₁ hF; clear h₁; rw [stepG_region]; simp only [goes_go, List.size_toArray, List.length_cons, List.length_nil, Nat.reduceAdd, Nat.zero_add, List.range, List.range.loop]; refine ⟨d0_none _, ?_⟩)
      | (refine Goes.step rfl (fun w₁ h₁ => ?_); replace hF := hFr _ _ h₁ hF; clear h₁; rw [stepG_cond (t := true) rfl]; simp only [goes_go, if_true, if_false, Bool.false_eq_true, ↓reduceIte]; refine ⟨d0_none _, ?_⟩)
      | (refine Goes.step rfl (fun w₁ h₁ => ?_); replace hF := hFr _ _ h₁ hF; clear h₁; rw [stepG_cond (t := false) rfl]; simp only [goes_go, if_true, if_false, Bool.false_eq_true, ↓reduceIte]; refine ⟨d0_none _, ?_⟩)
      | (refine Goes.step rfl (fun w₁ h₁ => ?_); replace hF := hFr _ _ h₁ hF; clear h₁; rw [stepG_unwanted rfl rfl]; simp only [goes_go]; refine ⟨d0_none _, ?_⟩; walk_nrm)
      | (refine Goes.step rfl (fun w₁ h₁ => ?_); replace hF := hFr _ _ h₁ hF; clear h₁; rw [stepG_defer rfl rfl (by decide) rfl]; simp only [goes_go]; refine ⟨d0_none _, ?_⟩; walk_nrm)
      | (refine Goes.step rfl (fun w₁ h₁ => ?_); replace hF := hFr _ _ h₁ hF; clear h₁; rw [stepG_entry_pure (.bool false) rfl rfl (by decide) rfl wgLib.f_inBubble (x_inBubble_n link) (x_inBubble_b link) (x_inBubble_x link) (x_inBubble_f link)]; simp only [goes_go]; refine ⟨d0_none _, ?_⟩; walk_nrm)
      | (refine Goes.step rfl (fun w₁ h₁ => ?_); replace hF := hFr _ _ h₁ hF; clear h₁; refine goes_oper_k rfl rfl (by decide) (fun K hK => ?_); go_simp; try w_num
         refine hK _ _ ⟨d0_evs _ ?_, ?_⟩
         · intro e he; have hm := mem_listed he; simp [go_sem] at hm
         clear hK K; try walk_nrm))
    refine Goes.stop (fun w₂ h₂ => ?_)
    replace hF := hFr _ _ h₂ hF
    clear h₂
    refine ⟨rfl, fun v' hv' hw => ⟨fun e => ?_, fun e => ?_⟩⟩
    · subst e
      rw [hty] at hw
      rw [hP, ← HV.out, ← HS.out]
      rw [← HV.out, ← HS.out] at hw
      have hFs : F (w₂.setCell (stA C.Wg) (.int .u64 (S + 1))) := hFr _ _ (AsideM.setSt w₂ (by rw [hty]; exact hw) _) hF
      refine ⟨_, (stepG_cas_hit (v := S) (n := S + 1) rfl rfl (by decide) rfl wgLib.f_casU64 (x_casU64_n link) (x_casU64_b link) (x_casU64_x link) .u64 (x_casU64_f link) rfl rfl rfl hw.cellSt (hw.thaw 0)).trans (by rfl), 110, ?_⟩
      replace hF := hFs
      clear hw hFs
      rw [hP]
      walk_nrm
      repeat (first
        | (refine Goes.step rfl (fun w₁ h₁ => ?_); replace hF := hFr _ _ h₁ hF; clear h₁; rw [stepG_region_end]; simp only [goes_go]; refine ⟨d0_none _, ?_⟩)
        | (refine Goes.step rfl (fun w₁ h₁ => ?_); replace hF := hFr _ _ h₁ hF; clear h₁; rw [stepG_skip]; simp only [goes_go]; refine ⟨d0_none _, ?_⟩)
        | (refine Goes.step rfl (fun w₁ h₁ => ?_); replace hF := hFr _ _ h₁ hF; clear h₁; rw [stepG_seq]; simp only [goes_go]; refine ⟨d0_none _, ?_⟩)
        | (refine Goes.step rfl (fun w₁ h₁ => ?_); replace hF := hFr _ _ h₁ hF; clear h₁; rw [stepG_block]; simp only [goes_go]; refine ⟨d0_none _, ?_⟩)
        | (refine Goes.step rfl (fun w₁ h₁ => ?_); replace hF := hFr _ _ h₁ hF; clear h₁; rw [stepG_inBlock]; simp only [goes_go]; refine ⟨d0_none _, ?_⟩)
        | (refine Goes.step rfl (fun w₁ h₁ => ?_); replace hF := hFr _ _ h₁ hF; clear h₁; rw [stepG_ret']; simp only [goes_go]; refine ⟨d0_none _, ?_⟩)
        | (refine Goes.step rfl (fun w₁ h₁ => ?_); replace hF := hFr _ _ h₁ hF; clear h₁; rw [stepG_region]; simp only [goes_go, List.size_toArray, List.length_cons, List.length_nil, Nat.reduceAdd, Nat.zero_add, List.range, List.range.loop]; refine ⟨d0_none _, ?_⟩)
        | (refine Goes.step rfl (fun w₁ h₁ => ?_); replace hF := hFr _ _ h₁ hF; clear h₁; rw [stepG_cond (t := true) rfl]; simp only [goes_go, if_true, if_false, Bool.false_eq_true, ↓reduceIte]; refine ⟨d0_none _, ?_⟩)
        | (refine Goes.step rfl (fun w₁ h₁ => ?_); replace hF := hFr _ _ h₁ hF; clear h₁; rw [stepG_cond (t := false) rfl]; simp only [goes_go, if_true, if_false, Bool.false_eq_true, ↓reduceIte]; refine ⟨d0_none _, ?_⟩)
        | (refine Goes.step rfl (fun w₁ h₁ => ?_); replace hF := hFr _ _ h₁ hF; clear h₁; rw [stepG_unwanted rfl rfl]; simp only [goes_go]; refine ⟨d0_none _, ?_⟩; walk_nrm)
        | (refine Goes.step rfl (fun w₁ h₁ => ?_); replace hF := hFr _ _ h₁ hF; clear h₁; rw [stepG_defer rfl rfl (by decide) rfl]; simp only [goes_go]; refine ⟨d0_none _, ?_⟩; walk_nrm)
        | (refine Goes.step rfl (fun w₁ h₁ => ?_); replace hF := hFr _ _ h₁ hF; clear h₁; rw [stepG_entry_pure (.bool false) rfl rfl (by decide) rfl wgLib.f_inBubble (x_inBubble_n link) (x_inBubble_b link) (x_inBubble_x link) (x_inBubble_f link)]; simp only [goes_go]; refine ⟨d0_none _, ?_⟩; walk_nrm)
        | (refine Goes.step rfl (fun w₁ h₁ => ?_); replace hF := hFr _ _ h₁ hF; clear h₁; refine goes_oper_k rfl rfl (by decide) (fun K hK => ?_); go_simp; try w_num
           refine hK _ _ ⟨d0_evs _ ?_, ?_⟩
           · intro e he; have hm := mem_listed he; simp [go_sem] at hm
           clear hK K; try walk_nrm))
      refine Goes.step rfl (fun w₁ h₁ => ?_); replace hF := hFr _ _ h₁ hF; clear h₁
      refine goes_leave1 rfl rfl Try.func42 rfl ⟨d0_none _, ?_⟩
      walk_nrm
      repeat (first
        | (refine Goes.step rfl (fun w₁ h₁ => ?_); replace hF := hFr _ _ h₁ hF; clear h₁; rw [stepG_region_end]; simp only [goes_go]; refine ⟨d0_none _, ?_⟩)
        | (refine Goes.step rfl (fun w₁ h₁ => ?_); replace hF := hFr _ _ h₁ hF; clear h₁; rw [stepG_skip]; simp only [goes_go]; refine ⟨d0_none _, ?_⟩)
        | (refine Goes.step rfl (fun w₁ h₁ => ?_); replace hF := hFr _ _ h₁ hF; clear h₁; rw [stepG_seq]; simp only [goes_go]; refine ⟨d0_none _, ?_⟩)
        | (refine Goes.step rfl (fun w₁ h₁ => ?_); replace hF := hFr _ _ h₁ hF; clear h₁; rw [stepG_block]; simp only [goes_go]; refine ⟨d0_none _, ?_⟩)
        | (refine Goes.step rfl (fun w₁ h₁ => ?_); replace hF := hFr _ _ h₁ hF; clear h₁; rw [stepG_inBlock]; simp only [goes_go]; refine ⟨d0_none _, ?_⟩)
        | (refine Goes.step rfl (fun w₁ h₁ => ?_); replace hF := hFr _ _ h₁ hF; clear h₁; rw [stepG_region]; simp only [goes_go, List.size_toArray, List.length_cons, List.length_nil, Nat.reduceAdd, Nat.zero_add, List.range, List.range.loop]; refine ⟨d0_none _, ?_⟩)
        | (refine Goes.step rfl (fun w₁ h₁ => ?_); replace hF := hFr _ _ h₁ hF; clear h₁; rw [stepG_cond (t := true) rfl]; simp only [goes_go, if_true, if_false, Bool.false_eq_true, ↓reduceIte]; refine ⟨d0_none _, ?_⟩)
        | (refine Goes.step rfl (fun w₁ h₁ => ?_); replace hF := hFr _ _ h₁ hF; clear h₁; rw [stepG_cond (t := false) rfl]; simp only [goes_go, if_true, if_false, Bool.false_eq_true, ↓reduceIte]; refine ⟨d0_none _, ?_⟩)
        | (refine Goes.step rfl (fun w₁ h₁ => ?_); replace hF := hFr _ _ h₁ hF; clear h₁; rw [stepG_unwanted rfl rfl]; simp only [goes_go]; refine ⟨d0_none _, ?_⟩; walk_nrm)
        | (refine Goes.step rfl (fun w₁ h₁ => ?_); replace hF := hFr _ _ h₁ hF; clear h₁; rw [stepG_defer rfl rfl (by decide) rfl]; simp only [goes_go]; refine ⟨d0_none _, ?_⟩; walk_nrm)
        | (refine Goes.step rfl (fun w₁ h₁ => ?_); replace hF := hFr _ _ h₁ hF; clear h₁; rw [stepG_entry_pure (.bool false) rfl rfl (by decide) rfl wgLib.f_inBubble (x_inBubble_n link) (x_inBubble_b link) (x_inBubble_x link) (x_inBubble_f link)]; simp only [goes_go]; refine ⟨d0_none _, ?_⟩; walk_nrm)
        | (refine Goes.step rfl (fun w₁ h₁ => ?_); replace hF := hFr _ _ h₁ hF; clear h₁; refine goes_oper_k rfl rfl (by decide) (fun K hK => ?_); go_simp; try w_num
           refine hK _ _ ⟨d0_evs _ ?_, ?_⟩
           · intro e he; have hm := mem_listed he; simp [go_sem] at hm
           clear hK K; try walk_nrm))
      refine Goes.step rfl (fun w₁ h₁ => ?_); replace hF := hFr _ _ h₁ hF; clear h₁
      have hc := (Go.ConcN.Gen.WgLive.cell1 (hl _ hF)).choose_spec
      have hcv := run_convert_to_unsafe (P := Try.prog) wgLib.underlying_tPU32 wgLib.underlying_tUP wgLib.room_tU32 hc
      have hce := fun es => events_convert_to_unsafe (P := Try.prog) wgLib.underlying_tPU32 wgLib.underlying_tUP wgLib.room_tU32 hc es
      refine goes_oper_k rfl rfl (by decide) (fun K hK => ?_)
      go_simp
      refine hK _ _ ⟨d0_evs _ (fun e he => by (have hm := mem_listed he; simp [go_sem, *] at hm)), ?_⟩; clear hK K hcv hce hc
      try walk_nrm
      refine Goes.step rfl (fun w₁ h₁ => ?_); replace hF := hFr _ _ h₁ hF; clear h₁
      rw [stepG_markAt .write (by simp) rfl rfl (by decide) rfl wgLib.f_raceWrite (x_raceWrite_n link) (x_raceWrite_b link) (x_raceWrite_x link) (x_raceWrite_f link) (ad := ⟨C.Wg, 1, none⟩) (by simp [Act.eval])]
      simp only [goes_go]
      refine ⟨d0_saidwrite hap hB _, ?_⟩
      walk_nrm
      repeat (first
        | (refine Goes.step rfl (fun w₁ h₁ => ?_); replace hF := hFr _ _ h₁ hF; clear h₁; rw [stepG_region_end]; simp only [goes_go]; refine ⟨d0_none _, ?_⟩)
        | (refine Goes.step rfl (fun w₁ h₁ => ?_); replace hF := hFr _ _ h₁ hF; clear h₁; rw [stepG_skip]; simp only [goes_go]; refine ⟨d0_none _, ?_⟩)
        | (refine Goes.step rfl (fun w₁ h₁ => ?_); replace hF := hFr _ _ h₁ hF; clear h₁; rw [stepG_seq]; simp only [goes_go]; refine ⟨d0_none _, ?_⟩)
        | (refine Goes.step rfl (fun w₁ h₁ => ?_); replace hF := hFr _ _ h₁ hF; clear h₁; rw [stepG_block]; simp only [goes_go]; refine ⟨d0_none _, ?_⟩)
        | (refine Goes.step rfl (fun w₁ h₁ => ?_); replace hF := hFr _ _ h₁ hF; clear h₁; rw [stepG_inBlock]; simp only [goes_go]; refine ⟨d0_none _, ?_⟩)
        | (refine Goes.step rfl (fun w₁ h₁ => ?_); replace hF := hFr _ _ h₁ hF; clear h₁; rw [stepG_region]; simp only [goes_go, List.size_toArray, List.length_cons, List.length_nil, Nat.reduceAdd, Nat.zero_add, List.range, List.range.loop]; refine ⟨d0_none _, ?_⟩)
        | (refine Goes.step rfl (fun w₁ h₁ => ?_); replace hF := hFr _ _ h₁ hF; clear h₁; rw [stepG_cond (t := true) rfl]; simp only [goes_go, if_true, if_false, Bool.false_eq_true, ↓reduceIte]; refine ⟨d0_none _, ?_⟩)
        | (refine Goes.step rfl (fun w₁ h₁ => ?_); replace hF := hFr _ _ h₁ hF; clear h₁; rw [stepG_cond (t := false) rfl]; simp only [goes_go, if_true, if_false, Bool.false_eq_true, ↓reduceIte]; refine ⟨d0_none _, ?_⟩)
        | (refine Goes.step rfl (fun w₁ h₁ => ?_); replace hF := hFr _ _ h₁ hF; clear h₁; rw [stepG_unwanted rfl rfl]; simp only [goes_go]; refine ⟨d0_none _, ?_⟩; walk_nrm)
        | (refine Goes.step rfl (fun w₁ h₁ => ?_); replace hF := hFr _ _ h₁ hF; clear h₁; rw [stepG_defer rfl rfl (by decide) rfl]; simp only [goes_go]; refine ⟨d0_none _, ?_⟩; walk_nrm)
        | (refine Goes.step rfl (fun w₁ h₁ => ?_); replace hF := hFr _ _ h₁ hF; clear h₁; rw [stepG_entry_pure (.bool false) rfl rfl (by decide) rfl wgLib.f_inBubble (x_inBubble_n link) (x_inBubble_b link) (x_inBubble_x link) (x_inBubble_f link)]; simp only [goes_go]; refine ⟨d0_none _, ?_⟩; walk_nrm)
        | (refine Goes.step rfl (fun w₁ h₁ => ?_); replace hF := hFr _ _ h₁ hF; clear h₁; refine goes_oper_k rfl rfl (by decide) (fun K hK => ?_); go_simp; try w_num
           refine hK _ _ ⟨d0_evs _ ?_, ?_⟩
           · intro e he; have hm := mem_listed he; simp [go_sem] at hm
           clear hK K; try walk_nrm))
      refine Goes.stop (fun w₃ h₃ => ?_)
      replace hF := hFr _ _ h₃ hF
      clear h₃
      refine ⟨rfl, rfl, fun ⟨st, hw⟩ => ?_, fun hf => ?_⟩
      · rw [hty] at hw
        rw [hP]
        exact stepG_semacquire_wait rfl rfl rfl wgLib.f_semacquire (x_semacquire_n link) (x_semacquire_b link) (x_semacquire_x link) (x_semacquire_f link) (by simp [Act.eval, smA]) hw.cellSm
      rw [hty] at hf
      rw [hP]
      have hFs : F (w₃.setCell (smA C.Wg) (.int .u32 0)) := hFr _ _ (AsideM.setSm w₃ (by rw [hty]; exact hf) _) hF
      refine ⟨_, (stepG_semacquire (n := 1) rfl rfl (by decide) rfl wgLib.f_semacquire (x_semacquire_n link) (x_semacquire_b link) (x_semacquire_x link) (x_semacquire_f link) (by simp [Act.eval, smA]) hf.cellSm (by decide) (hf.thaw 1)).trans (by rfl), 60, ?_⟩
      replace hF := hFs
      clear hf hFs
      rw [hP]
      walk_nrm
      repeat (first
        | (refine Goes.step rfl (fun w₁ h₁ => ?_); replace hF := hFr _ _ h₁ hF; clear h₁; rw [stepG_region_end]; simp only [goes_go]; refine ⟨d0_none _, ?_⟩)
        | (refine Goes.step rfl (fun w₁ h₁ => ?_); replace hF := hFr _ _ h₁ hF; clear h₁; rw [stepG_skip]; simp only [goes_go]; refine ⟨d0_none _, ?_⟩)
        | (refine Goes.step rfl (fun w₁ h₁ => ?_); replace hF := hFr _ _ h₁ hF; clear h₁; rw [stepG_seq]; simp only [goes_go]; refine ⟨d0_none _, ?_⟩)
        | (refine Goes.step rfl (fun w₁ h₁ => ?_); replace hF := hFr _ _ h₁ hF; clear h₁; rw [stepG_block]; simp only [goes_go]; refine ⟨d0_none _, ?_⟩)
        | (refine Goes.step rfl (fun w₁ h₁ => ?_); replace hF := hFr _ _ h₁ hF; clear h₁; rw [stepG_inBlock]; simp only [goes_go]; refine ⟨d0_none _, ?_⟩)
        | (refine Goes.step rfl (fun w₁ h₁ => ?_); replace hF := hFr _ _ h₁ hF; clear h₁; rw [stepG_region]; simp only [goes_go, List.size_toArray, List.length_cons, List.length_nil, Nat.reduceAdd, Nat.zero_add, List.range, List.range.loop]; refine ⟨d0_none _, ?_⟩)
        | (refine Goes.step rfl (fun w₁ h₁ => ?_); replace hF := hFr _ _ h₁ hF; clear h₁; rw [stepG_cond (t := true) rfl]; simp only [goes_go, if_true, if_false, Bool.false_eq_true, ↓reduceIte]; refine ⟨d0_none _, ?_⟩)
        | (refine Goes.step rfl (fun w₁ h₁ => ?_); replace hF := hFr _ _ h₁ hF; clear h₁; rw [stepG_cond (t := false) rfl]; simp only [goes_go, if_true, if_false, Bool.false_eq_true, ↓reduceIte]; refine ⟨d0_none _, ?_⟩)
        | (refine Goes.step rfl (fun w₁ h₁ => ?_); replace hF := hFr _ _ h₁ hF; clear h₁; rw [stepG_unwanted rfl rfl]; simp only [goes_go]; refine ⟨d0_none _, ?_⟩; walk_nrm)
        | (refine Goes.step rfl (fun w₁ h₁ => ?_); replace hF := hFr _ _ h₁ hF; clear h₁; rw [stepG_defer rfl rfl (by decide) rfl]; simp only [goes_go]; refine ⟨d0_none _, ?_⟩; walk_nrm)
        | (refine Goes.step rfl (fun w₁ h₁ => ?_); replace hF := hFr _ _ h₁ hF; clear h₁; rw [stepG_entry_pure (.bool false) rfl rfl (by decide) rfl wgLib.f_inBubble (x_inBubble_n link) (x_inBubble_b link) (x_inBubble_x link) (x_inBubble_f link)]; simp only [goes_go]; refine ⟨d0_none _, ?_⟩; walk_nrm)
        | (refine Goes.step rfl (fun w₁ h₁ => ?_); replace hF := hFr _ _ h₁ hF; clear h₁; refine goes_oper_k rfl rfl (by decide) (fun K hK => ?_); go_simp; try w_num
           refine hK _ _ ⟨d0_evs _ ?_, ?_⟩
           · intro e he; have hm := mem_listed he; simp [go_sem] at hm
           clear hK K; try walk_nrm))
      refine Goes.step rfl (fun w₁ h₁ => ?_); replace hF := hFr _ _ h₁ hF; clear h₁
      refine goes_call rfl rfl (by decide) rfl Try.func35 (by rfl) rfl ⟨d0_none _, ?_⟩
      walk_nrmf Try.f35
      repeat (first
        | (refine Goes.step rfl (fun w₁ h₁ => ?_); replace hF := hFr _ _ h₁ hF; clear h₁; rw [stepG_region_end]; simp only [goes_go]; refine ⟨d0_none _, ?_⟩)
        | (refine Goes.step rfl (fun w₁ h₁ => ?_); replace hF := hFr _ _ h₁ hF; clear h₁; rw [stepG_skip]; simp only [goes_go]; refine ⟨d0_none _, ?_⟩)
        | (refine Goes.step rfl (fun w₁ h₁ => ?_); replace hF := hFr _ _ h₁ hF; clear h₁; rw [stepG_seq]; simp only [goes_go]; refine ⟨d0_none _, ?_⟩)
        | (refine Goes.step rfl (fun w₁ h₁ => ?_); replace hF := hFr _ _ h₁ hF; clear h₁; rw [stepG_block]; simp only [goes_go]; refine ⟨d0_none _, ?_⟩)
        | (refine Goes.step rfl (fun w₁ h₁ => ?_); replace hF := hFr _ _ h₁ hF; clear h₁; rw [stepG_inBlock]; simp only [goes_go]; refine ⟨d0_none _, ?_⟩)
        | (refine Goes.step rfl (fun w₁ h₁ => ?_); replace hF := hFr _ _ h₁ hF; clear h₁; rw [stepG_region]; simp only [goes_go, List.size_toArray, List.length_cons, List.length_nil, Nat.reduceAdd, Nat.zero_add, List.range, List.range.loop]; refine ⟨d0_none _, ?_⟩)
        | (refine Goes.step rfl (fun w₁ h₁ => ?_); replace hF := hFr _ _ h₁ hF; clear h₁; rw [stepG_cond (t := true) rfl]; simp only [goes_go, if_true, if_false, Bool.false_eq_true, ↓reduceIte]; refine ⟨d0_none _, ?_⟩)
        | (refine Goes.step rfl (fun w₁ h₁ => ?_); replace hF := hFr _ _ h₁ hF; clear h₁; rw [stepG_cond (t := false) rfl]; simp only [goes_go, if_true, if_false, Bool.false_eq_true, ↓reduceIte]; refine ⟨d0_none _, ?_⟩)
        | (refine Goes.step rfl (fun w₁ h₁ => ?_); replace hF := hFr _ _ h₁ hF; clear h₁; rw [stepG_unwanted rfl rfl]; simp only [goes_go]; refine ⟨d0_none _, ?_⟩; walk_nrm)
        | (refine Goes.step rfl (fun w₁ h₁ => ?_); replace hF := hFr _ _ h₁ hF; clear h₁; rw [stepG_defer rfl rfl (by decide) rfl]; simp only [goes_go]; refine ⟨d0_none _, ?_⟩; walk_nrm)
        | (refine Goes.step rfl (fun w₁ h₁ => ?_); replace hF := hFr _ _ h₁ hF; clear h₁; rw [stepG_entry_pure (.bool false) rfl rfl (by decide) rfl wgLib.f_inBubble (x_inBubble_n link) (x_inBubble_b link) (x_inBubble_x link) (x_inBubble_f link)]; simp only [goes_go]; refine ⟨d0_none _, ?_⟩; walk_nrm)
        | (refine Goes.step rfl (fun w₁ h₁ => ?_); replace hF := hFr _ _ h₁ hF; clear h₁; refine goes_oper_k rfl rfl (by decide) (fun K hK => ?_); go_simp; try w_num
           refine hK _ _ ⟨d0_evs _ ?_, ?_⟩
           · intro e he; have hm := mem_listed he; simp [go_sem] at hm
           clear hK K; try walk_nrm))
      refine Goes.stop (fun w₄ h₄ => ?_)
      replace hF := hFr _ _ h₄ hF
      clear h₄
      refine ⟨rfl, fun hw => ?_⟩
      rw [hty] at hw
      rw [hP]
      refine ⟨_, stepG_load_atomic (v := 0) rfl rfl (by decide) rfl wgLib.f_loadU64 (x_loadU64_n link) (x_loadU64_b link) (x_loadU64_x link) .u64 (x_loadU64_f link) rfl hw.cellSt, 60, ?_⟩
      clear hw
      rw [hP]
      walk_nrm
      repeat (first
        | (refine Goes.step rfl (fun w₁ h₁ => ?_); replace hF := hFr _ _ h₁ hF; clear h₁; rw [stepG_region_end]; simp only [goes_go]; refine ⟨d0_none _, ?_⟩)
        | (refine Goes.step rfl (fun w₁ h₁ => ?_); replace hF := hFr _ _ h₁ hF; clear h₁; rw [stepG_skip]; simp only [goes_go]; refine ⟨d0_none _, ?_⟩)
        | (refine Goes.step rfl (fun w₁ h₁ => ?_); replace hF := hFr _ _ h₁ hF; clear h₁; rw [stepG_seq]; simp only [goes_go]; refine ⟨d0_none _, ?_⟩)
        | (refine Goes.step rfl (fun w₁ h₁ => ?_); replace hF := hFr _ _ h₁ hF; clear h₁; rw [stepG_block]; simp only [goes_go]; refine ⟨d0_none _, ?_⟩)
        | (refine Goes.step rfl (fun w₁ h₁ => ?_); replace hF := hFr _ _ h₁ hF; clear h₁; rw [stepG_inBlock]; simp only [goes_go]; refine ⟨d0_none _, ?_⟩)
        | (refine Goes.step rfl (fun w₁ h₁ => ?_); replace hF := hFr _ _ h₁ hF; clear h₁; rw [stepG_ret']; simp only [goes_go]; refine ⟨d0_none _, ?_⟩)
        | (refine Goes.step rfl (fun w₁ h₁ => ?_); replace hF := hFr _ _ h₁ hF; clear h₁; rw [stepG_region]; simp only [goes_go, List.size_toArray, List.length_cons, List.length_nil, Nat.reduceAdd, Nat.zero_add, List.range, List.range.loop]; refine ⟨d0_none _, ?_⟩)
        | (refine Goes.step rfl (fun w₁ h₁ => ?_); replace hF := hFr _ _ h₁ hF; clear h₁; rw [stepG_cond (t := true) rfl]; simp only [goes_go, if_true, if_false, Bool.false_eq_true, ↓reduceIte]; refine ⟨d0_none _, ?_⟩)
        | (refine Goes.step rfl (fun w₁ h₁ => ?_); replace hF := hFr _ _ h₁ hF; clear h₁; rw [stepG_cond (t := false) rfl]; simp only [goes_go, if_true, if_false, Bool.false_eq_true, ↓reduceIte]; refine ⟨d0_none _, ?_⟩)
        | (refine Goes.step rfl (fun w₁ h₁ => ?_); replace hF := hFr _ _ h₁ hF; clear h₁; rw [stepG_unwanted rfl rfl]; simp only [goes_go]; refine ⟨d0_none _, ?_⟩; walk_nrm)
        | (refine Goes.step rfl (fun w₁ h₁ => ?_); replace hF := hFr _ _ h₁ hF; clear h₁; rw [stepG_defer rfl rfl (by decide) rfl]; simp only [goes_go]; refine ⟨d0_none _, ?_⟩; walk_nrm)
        | (refine Goes.step rfl (fun w₁ h₁ => ?_); replace hF := hFr _ _ h₁ hF; clear h₁; rw [stepG_entry_pure (.bool false) rfl rfl (by decide) rfl wgLib.f_inBubble (x_inBubble_n link) (x_inBubble_b link) (x_inBubble_x link) (x_inBubble_f link)]; simp only [goes_go]; refine ⟨d0_none _, ?_⟩; walk_nrm)
        | (refine Goes.step rfl (fun w₁ h₁ => ?_); replace hF := hFr _ _ h₁ hF; clear h₁; refine goes_oper_k rfl rfl (by decide) (fun K hK => ?_); go_simp; try w_num
           refine hK _ _ ⟨d0_evs _ ?_, ?_⟩
           · intro e he; have hm := mem_listed he; simp [go_sem] at hm
           clear hK K; try walk_nrm))
      refine Goes.step rfl (fun w₁ h₁ => ?_); replace hF := hFr _ _ h₁ hF; clear h₁
      refine goes_leave1 rfl rfl Try.func35 rfl ⟨d0_none _, ?_⟩
      walk_nrm
      repeat (first
        | (refine Goes.step rfl (fun w₁ h₁ => ?_); replace hF := hFr _ _ h₁ hF; clear h₁; rw [stepG_region_end]; simp only [goes_go]; refine ⟨d0_none _, ?_⟩)
        | (refine Goes.step rfl (fun w₁ h₁ => ?_); replace hF := hFr _ _ h₁ hF; clear h₁; rw [stepG_skip]; simp only [goes_go]; refine ⟨d0_none _, ?_⟩)
        | (refine Goes.step rfl (fun w₁ h₁ => ?_); replace hF := hFr _ _ h₁ hF; clear h₁; rw [stepG_seq]; simp only [goes_go]; refine ⟨d0_none _, ?_⟩)
        | (refine Goes.step rfl (fun w₁ h₁ => ?_); replace hF := hFr _ _ h₁ hF; clear h₁; rw [stepG_block]; simp only [goes_go]; refine ⟨d0_none _, ?_⟩)
        | (refine Goes.step rfl (fun w₁ h₁ => ?_); replace hF := hFr _ _ h₁ hF; clear h₁; rw [stepG_inBlock]; simp only [goes_go]; refine ⟨d0_none _, ?_⟩)
        | (refine Goes.step rfl (fun w₁ h₁ => ?_); replace hF := hFr _ _ h₁ hF; clear h₁; rw [stepG_region]; simp only [goes_go, List.size_toArray, List.length_cons, List.length_nil, Nat.reduceAdd, Nat.zero_add, List.range, List.range.loop]; refine ⟨d0_none _, ?_⟩)
        | (refine Goes.step rfl (fun w₁ h₁ => ?_); replace hF := hFr _ _ h₁ hF; clear h₁; rw [stepG_cond (t := true) rfl]; simp only [goes_go, if_true, if_false, Bool.false_eq_true, ↓reduceIte]; refine ⟨d0_none _, ?_⟩)
        | (refine Goes.step rfl (fun w₁ h₁ => ?_); replace hF := hFr _ _ h₁ hF; clear h₁; rw [stepG_cond (t := false) rfl]; simp only [goes_go, if_true, if_false, Bool.false_eq_true, ↓reduceIte]; refine ⟨d0_none _, ?_⟩)
        | (refine Goes.step rfl (fun w₁ h₁ => ?_); replace hF := hFr _ _ h₁ hF; clear h₁; rw [stepG_unwanted rfl rfl]; simp only [goes_go]; refine ⟨d0_none _, ?_⟩; walk_nrm)
        | (refine Goes.step rfl (fun w₁ h₁ => ?_); replace hF := hFr _ _ h₁ hF; clear h₁; rw [stepG_defer rfl rfl (by decide) rfl]; simp only [goes_go]; refine ⟨d0_none _, ?_⟩; walk_nrm)
        | (refine Goes.step rfl (fun w₁ h₁ => ?_); replace hF := hFr _ _ h₁ hF; clear h₁; rw [stepG_entry_pure (.bool false) rfl rfl (by decide) rfl wgLib.f_inBubble (x_inBubble_n link) (x_inBubble_b link) (x_inBubble_x link) (x_inBubble_f link)]; simp only [goes_go]; refine ⟨d0_none _, ?_⟩; walk_nrm)
        | (refine Goes.step rfl (fun w₁ h₁ => ?_); replace hF := hFr _ _ h₁ hF; clear h₁; refine goes_oper_k rfl rfl (by decide) (fun K hK => ?_); go_simp; try w_num
           refine hK _ _ ⟨d0_evs _ ?_, ?_⟩
           · intro e he; have hm := mem_listed he; simp [go_sem] at hm
           clear hK K; try walk_nrm))
      refine Goes.stop (fun w₅ h₅ => ?_)
      replace hF := hFr _ _ h₅ hF
      clear h₅
      refine ⟨rfl, _, by rw [hP]; exact stepG_mark0 .enable (by simp) rfl rfl (by decide) rfl wgLib.f_enable (x_enable_n link) (x_enable_b link) (x_enable_x link) (x_enable_f link), 20, ?_⟩
      rw [hP]
      walk_nrm
      repeat (first
        | (refine Goes.step rfl (fun w₁ h₁ => ?_); replace hF := hFr _ _ h₁ hF; clear h₁; rw [stepG_region_end]; simp only [goes_go]; refine ⟨d0_none _, ?_⟩)
        | (refine Goes.step rfl (fun w₁ h₁ => ?_); replace hF := hFr _ _ h₁ hF; clear h₁; rw [stepG_skip]; simp only [goes_go]; refine ⟨d0_none _, ?_⟩)
        | (refine Goes.step rfl (fun w₁ h₁ => ?_); replace hF := hFr _ _ h₁ hF; clear h₁; rw [stepG_seq]; simp only [goes_go]; refine ⟨d0_none _, ?_⟩)
        | (refine Goes.step rfl (fun w₁ h₁ => ?_); replace hF := hFr _ _ h₁ hF; clear h₁; rw [stepG_block]; simp only [goes_go]; refine ⟨d0_none _, ?_⟩)
        | (refine Goes.step rfl (fun w₁ h₁ => ?_); replace hF := hFr _ _ h₁ hF; clear h₁; rw [stepG_inBlock]; simp only [goes_go]; refine ⟨d0_none _, ?_⟩)
        | (refine Goes.step rfl (fun w₁ h₁ => ?_); replace hF := hFr _ _ h₁ hF; clear h₁; rw [stepG_region]; simp only [goes_go, List.size_toArray, List.length_cons, List.length_nil, Nat.reduceAdd, Nat.zero_add, List.range, List.range.loop]; refine ⟨d0_none _, ?_⟩)
        | (refine Goes.step rfl (fun w₁ h₁ => ?_); replace hF := hFr _ _ h₁ hF; clear h₁; rw [stepG_cond (t := true) rfl]; simp only [goes_go, if_true, if_false, Bool.false_eq_true, ↓reduceIte]; refine ⟨d0_none _, ?_⟩)
        | (refine Goes.step rfl (fun w₁ h₁ => ?_); replace hF := hFr _ _ h₁ hF; clear h₁; rw [stepG_cond (t := false) rfl]; simp only [goes_go, if_true, if_false, Bool.false_eq_true, ↓reduceIte]; refine ⟨d0_none _, ?_⟩)
        | (refine Goes.step rfl (fun w₁ h₁ => ?_); replace hF := hFr _ _ h₁ hF; clear h₁; rw [stepG_unwanted rfl rfl]; simp only [goes_go]; refine ⟨d0_none _, ?_⟩; walk_nrm)
        | (refine Goes.step rfl (fun w₁ h₁ => ?_); replace hF := hFr _ _ h₁ hF; clear h₁; rw [stepG_defer rfl rfl (by decide) rfl]; simp only [goes_go]; refine ⟨d0_none _, ?_⟩; walk_nrm)
        | (refine Goes.step rfl (fun w₁ h₁ => ?_); replace hF := hFr _ _ h₁ hF; clear h₁; rw [stepG_entry_pure (.bool false) rfl rfl (by decide) rfl wgLib.f_inBubble (x_inBubble_n link) (x_inBubble_b link) (x_inBubble_x link) (x_inBubble_f link)]; simp only [goes_go]; refine ⟨d0_none _, ?_⟩; walk_nrm)
        | (refine Goes.step rfl (fun w₁ h₁ => ?_); replace hF := hFr _ _ h₁ hF; clear h₁; refine goes_oper_k rfl rfl (by decide) (fun K hK => ?_); go_simp; try w_num
           refine hK _ _ ⟨d0_evs _ ?_, ?_⟩
           · intro e he; have hm := mem_listed he; simp [go_sem] at hm
           clear hK K; try walk_nrm))
      refine Goes.step rfl (fun w₁ h₁ => ?_); replace hF := hFr _ _ h₁ hF; clear h₁
      have hc := (Go.ConcN.Gen.WgLive.cell0 (hl _ hF)).choose_spec
      have hcv := run_convert_to_unsafe (P := Try.prog) wgLib.underlying_tWgP wgLib.underlying_tUP wgLib.room_tWg hc
      have hce := fun es => events_convert_to_unsafe (P := Try.prog) wgLib.underlying_tWgP wgLib.underlying_tUP wgLib.room_tWg hc es
      refine goes_oper_k rfl rfl (by decide) (fun K hK => ?_)
      go_simp
      refine hK _ _ ⟨d0_evs _ (fun e he => by (have hm := mem_listed he; simp [go_sem, *] at hm)), ?_⟩; clear hK K hcv hce hc
      try walk_nrm
      refine Goes.stop (fun w₆ h₆ => ?_)
      replace hF := hFr _ _ h₆ hF
      clear h₆
      refine ⟨rfl, _, by rw [hP]; exact stepG_markAt .acquire (by simp) rfl rfl (by decide) rfl wgLib.f_acquire (x_acquire_n link) (x_acquire_b link) (x_acquire_x link) (x_acquire_f link) (by simp [Act.eval, stA]), ?_⟩
      refine ⟨hF, fun S' X hX => ?_⟩
      walk_nrm
      repeat (first
        | refine r_end ?_ | refine r_skip ?_ | refine r_seq ?_ | refine r_block ?_ | refine r_inBlock ?_
        | (refine r_region ?_; simp only [List.size_toArray, List.length_cons, List.length_nil, Nat.reduceAdd, Nat.zero_add, List.range, List.range.loop])
        | (refine r_cond (t := true) rfl ?_; simp only [if_true, if_false, Bool.false_eq_true, ↓reduceIte])
        | (refine r_cond (t := false) rfl ?_; simp only [if_true, if_false, Bool.false_eq_true, ↓reduceIte])
        | (refine r_unwanted rfl rfl ?_; walk_nrm)
        | (refine r_op rfl rfl (by decide) (fun w₁ h₁ K hK => ?_); obtain ⟨dd, hdd⟩ := h₁; subst hdd; (try simp only [at_at']); go_simp; try w_num
           refine hK _ _ ⟨fun e he => ?_, ?_⟩
           · have hm := mem_listed he; simp [go_sem] at hm
           clear hK K; try walk_nrm))
      refine r_ret ?_
      refine r_ctl rfl (fun w₁ => ?_) (Reach.at hX ⟨_, rfl⟩)
      rw [stepG_leave rfl rfl Try.func25 (results_none rfl _ _ _) (events_results_none rfl _ _), Frame.finish_at]
    · rw [hty] at hw
      rw [hP]
      refine ⟨_, stepG_cas_miss (v := (v' : Int) * KK) (old := S) (n := S + 1) rfl rfl (by decide) rfl wgLib.f_casU64 (x_casU64_n link) (x_casU64_b link) (x_casU64_x link) .u64 (x_casU64_f link) rfl rfl rfl hw.cellSt (hw.thaw 0) (by rw [HS.out, HV.out]; simp only [KK]; omega), 40, ?_⟩
      clear hw
      rw [hP]
      walk_nrm
      repeat (first
        | (refine Goes.step rfl (fun w₁ h₁ => ?_); replace hF := hFr _ _ h₁ hF; clear h₁; rw [stepG_region_end]; simp only [goes_go]; refine ⟨d0_none _, ?_⟩)
        | (refine Goes.step rfl (fun w₁ h₁ => ?_); replace hF := hFr _ _ h₁ hF; clear h₁; rw [stepG_skip]; simp only [goes_go]; refine ⟨d0_none _, ?_⟩)
        | (refine Goes.step rfl (fun w₁ h₁ => ?_); replace hF := hFr _ _ h₁ hF; clear h₁; rw [stepG_seq]; simp only [goes_go]; refine ⟨d0_none _, ?_⟩)
        | (refine Goes.step rfl (fun w₁ h₁ => ?_); replace hF := hFr _ _ h₁ hF; clear h₁; rw [stepG_block]; simp only [goes_go]; refine ⟨d0_none _, ?_⟩)
        | (refine Goes.step rfl (fun w₁ h₁ => ?_); replace hF := hFr _ _ h₁ hF; clear h₁; rw [stepG_inBlock]; simp only [goes_go]; refine ⟨d0_none _, ?_⟩)
        | (refine Goes.step rfl (fun w₁ h₁ => ?_); replace hF := hFr _ _ h₁ hF; clear h₁; rw [stepG_ret']; simp only [goes_go]; refine ⟨d0_none _, ?_⟩)
        | (refine Goes.step rfl (fun w₁ h₁ => ?_); replace hF := hFr _ _ h₁ hF; clear h₁; rw [stepG_region]; simp only [goes_go, List.size_toArray, List.length_cons, List.length_nil, Nat.reduceAdd, Nat.zero_add, List.range, List.range.loop]; refine ⟨d0_none _, ?_⟩)
        | (refine Goes.step rfl (fun w₁ h₁ => ?_); replace hF := hFr _ _ h₁ hF; clear h₁; rw [stepG_cond (t := true) rfl]; simp only [goes_go, if_true, if_false, Bool.false_eq_true, ↓reduceIte]; refine ⟨d0_none _, ?_⟩)
        | (refine Goes.step rfl (fun w₁ h₁ => ?_); replace hF := hFr _ _ h₁ hF; clear h₁; rw [stepG_cond (t := false) rfl]; simp only [goes_go, if_true, if_false, Bool.false_eq_true, ↓reduceIte]; refine ⟨d0_none _, ?_⟩)
        | (refine Goes.step rfl (fun w₁ h₁ => ?_); replace hF := hFr _ _ h₁ hF; clear h₁; rw [stepG_unwanted rfl rfl]; simp only [goes_go]; refine ⟨d0_none _, ?_⟩; walk_nrm)
        | (refine Goes.step rfl (fun w₁ h₁ => ?_); replace hF := hFr _ _ h₁ hF; clear h₁; rw [stepG_defer rfl rfl (by decide) rfl]; simp only [goes_go]; refine ⟨d0_none _, ?_⟩; walk_nrm)
        | (refine Goes.step rfl (fun w₁ h₁ => ?_); replace hF := hFr _ _ h₁ hF; clear h₁; rw [stepG_entry_pure (.bool false) rfl rfl (by decide) rfl wgLib.f_inBubble (x_inBubble_n link) (x_inBubble_b link) (x_inBubble_x link) (x_inBubble_f link)]; simp only [goes_go]; refine ⟨d0_none _, ?_⟩; walk_nrm)
        | (refine Goes.step rfl (fun w₁ h₁ => ?_); replace hF := hFr _ _ h₁ hF; clear h₁; refine goes_oper_k rfl rfl (by decide) (fun K hK => ?_); go_simp; try w_num
           refine hK _ _ ⟨d0_evs _ ?_, ?_⟩
           · intro e he; have hm := mem_listed he; simp [go_sem] at hm
           clear hK K; try walk_nrm))
      refine Goes.step rfl (fun w₁ h₁ => ?_); replace hF := hFr _ _ h₁ hF; clear h₁
      refine goes_leave1 rfl rfl Try.func42 rfl ⟨d0_none _, ?_⟩
      walk_nrm
      repeat (first
        | (refine Goes.step rfl (fun w₁ h₁ => ?_); replace hF := hFr _ _ h₁ hF; clear h₁; rw [stepG_region_end]; simp only [goes_go]; refine ⟨d0_none _, ?_⟩)
        | (refine Goes.step rfl (fun w₁ h₁ => ?_); replace hF := hFr _ _ h₁ hF; clear h₁; rw [stepG_skip]; simp only [goes_go]; refine ⟨d0_none _, ?_⟩)
        | (refine Goes.step rfl (fun w₁ h₁ => ?_); replace hF := hFr _ _ h₁ hF; clear h₁; rw [stepG_seq]; simp only [goes_go]; refine ⟨d0_none _, ?_⟩)
        | (refine Goes.step rfl (fun w₁ h₁ => ?_); replace hF := hFr _ _ h₁ hF; clear h₁; rw [stepG_block]; simp only [goes_go]; refine ⟨d0_none _, ?_⟩)
        | (refine Goes.step rfl (fun w₁ h₁ => ?_); replace hF := hFr _ _ h₁ hF; clear h₁; rw [stepG_inBlock]; simp only [goes_go]; refine ⟨d0_none _, ?_⟩)
        | (refine Goes.step rfl (fun w₁ h₁ => ?_); replace hF := hFr _ _ h₁ hF; clear h₁; rw [stepG_region]; simp only [goes_go, List.size_toArray, List.length_cons, List.length_nil, Nat.reduceAdd, Nat.zero_add, List.range, List.range.loop]; refine ⟨d0_none _, ?_⟩)
        | (refine Goes.step rfl (fun w₁ h₁ => ?_); replace hF := hFr _ _ h₁ hF; clear h₁; rw [stepG_cond (t := true) rfl]; simp only [goes_go, if_true, if_false, Bool.false_eq_true, ↓reduceIte]; refine ⟨d0_none _, ?_⟩)
        | (refine Goes.step rfl (fun w₁ h₁ => ?_); replace hF := hFr _ _ h₁ hF; clear h₁; rw [stepG_cond (t := false) rfl]; simp only [goes_go, if_true, if_false, Bool.false_eq_true, ↓reduceIte]; refine ⟨d0_none _, ?_⟩)
        | (refine Goes.step rfl (fun w₁ h₁ => ?_); replace hF := hFr _ _ h₁ hF; clear h₁; rw [stepG_unwanted rfl rfl]; simp only [goes_go]; refine ⟨d0_none _, ?_⟩; walk_nrm)
        | (refine Goes.step rfl (fun w₁ h₁ => ?_); replace hF := hFr _ _ h₁ hF; clear h₁; rw [stepG_defer rfl rfl (by decide) rfl]; simp only [goes_go]; refine ⟨d0_none _, ?_⟩; walk_nrm)
        | (refine Goes.step rfl (fun w₁ h₁ => ?_); replace hF := hFr _ _ h₁ hF; clear h₁; rw [stepG_entry_pure (.bool false) rfl rfl (by decide) rfl wgLib.f_inBubble (x_inBubble_n link) (x_inBubble_b link) (x_inBubble_x link) (x_inBubble_f link)]; simp only [goes_go]; refine ⟨d0_none _, ?_⟩; walk_nrm)
        | (refine Goes.step rfl (fun w₁ h₁ => ?_); replace hF := hFr _ _ h₁ hF; clear h₁; refine goes_oper_k rfl rfl (by decide) (fun K hK => ?_); go_simp; try w_num
           refine hK _ _ ⟨d0_evs _ ?_, ?_⟩
           · intro e he; have hm := mem_listed he; simp [go_sem] at hm
           clear hK K; try walk_nrm))
      (refine Goes.step rfl (fun w₁ h₁ => ?_); replace hF := hFr _ _ h₁ hF; clear h₁; rw [stepG_inLoop]; simp only [goes_go]; refine ⟨d0_none _, ?_⟩)
      exact Goes.stop fun w₃ h₃ => ⟨hFr _ _ h₃ hF, _, _, _, _, _, _, _, _, _, _, _, _, _, _, _, _, _, _, _, _, _, _, _, _, _, _, _, _, _, _, _, _, _, _, _, _, _, _, _, _, _, _, _, _, _, _, _, _, _, _, _, _, _, _, _, _, _, _, _, _, _, _, _, _, _, _, _, _, _, _, _, _, _, _, _, _, _, _, _, _, _, _, _, rfl⟩
end Go.Proofs.Ytdpagejckahkkaa.Net
