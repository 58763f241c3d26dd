/- Goroutine 0's Add(1), while the senders are at work: from the call to the return. -/
import Derived.Test.YtdpagejckahkkaaLink
import Derived.Test.YtdpagejckahkkaaMergeD
import Derived.Conc.WgGenN
set_option linter.unusedSimpArgs false
set_option linter.unusedVariables false
namespace Go.Proofs.Ytdpagejckahkkaa.Net
open Go Go.Conc Go.RowKit Go.ConcR.Gen
open Go.ConcN (ShN WgLive)
open Go.ConcR (stA smA rd wr mk WgAt KK)

section
variable {C : MCfg} {m : Nat}
theorem d0_none (w : World) : D0 C m w w #[] := ⟨id, fun _ _ => rfl, rfl, rfl, by simp⟩
theorem d0_evs (w : World) {es : Array Event} (h : ∀ e ∈ es, False) : D0 C m w w es := ⟨id, fun _ _ => rfl, rfl, rfl, fun e he => (h e he).elim⟩
theorem d0_saidread (hap : ∀ l, C.Still l → ¬ ShN C.Wg l) (hB : C.Wg < C.B) (w : World) : D0 C m w w #[⟨.mark (.read ⟨C.Wg, 1, none⟩), false, true⟩] := by
  refine ⟨id, fun _ _ => rfl, rfl, rfl, fun e he => ?_⟩
  simp at he
  subst he
  refine ⟨⟨fun x hx => ?_, by simp, by simp, hB⟩, by simp⟩
  simp [MemAct.ofEvent, MemAct.touch?] at hx
  subst hx
  exact ⟨fun _ => by simp, fun _ => rfl⟩
theorem d0_saidwrite (hap : ∀ l, C.Still l → ¬ ShN C.Wg l) (hB : C.Wg < C.B) (w : World) : D0 C m w w #[⟨.mark (.write ⟨C.Wg, 1, none⟩), false, true⟩] := by
  refine ⟨id, fun _ _ => rfl, rfl, rfl, fun e he => ?_⟩
  simp at he
  subst he
  refine ⟨⟨fun x hx => ?_, by simp, by simp, hB⟩, by simp⟩
  simp [MemAct.ofEvent, MemAct.touch?] at hx
  subst hx
  exact ⟨fun _ => by simp, fun hs => absurd ⟨_, rfl, rfl⟩ (hap _ hs)⟩
end

set_option maxRecDepth 100000 in
set_option maxHeartbeats 16000000 in
theorem add_says {C : MCfg} {m : Nat} (hP : C.P = Try.prog) (hty : C.ty = 47) (hap : ∀ l, C.Still l → ¬ ShN C.Wg l) (hB : C.Wg < C.B) {F : World → Prop} (hFr : ∀ w w₁, AsideM C m w w₁ → F w → F w₁) (hl : ∀ w, F w → WgLive 47 C.Wg w) {Next : Goroutine → World → Prop} {nb : Nat}
    {b₀ : Frame} {a₀ : Act} {ops₀ : Array Oper} {i₀ : Nat} {rest₀ : List Nat} {k₀ : List Item} {cs : List Frame}
    (hT : ∀ w, F w → Goes Try.prog true (AsideM C m) (D0 C m) (AtGoM C m Next) nb (G (b₀.at (a₀.put ((ops₀[i₀]?).bind (·.dst)) (.tuple #[])) (.inRegion ops₀ rest₀ :: k₀)) cs) w) (w : World) (hF : F w) :
    Goes Try.prog true (AsideM C m) (D0 C m) (At0Mark C .disable (GP C m (AtAddM C m Next))) 40 (G ((base 23).at ⟨#[.pointer (some ⟨C.Wg, 0, none⟩), .int .i64 1, undef, undef, undef, undef, undef, undef, undef, undef, undef, undef, undef, undef, undef, undef, undef, undef, undef, undef, undef, undef, undef, undef, undef, undef, undef, undef, undef, undef, undef, undef, undef, undef, undef, undef, undef, undef, undef, undef, undef, undef, undef, undef, undef, undef, undef, undef, undef, undef, undef, undef, undef, undef, undef, undef, undef, undef, undef, undef, undef, undef, undef, undef, undef, undef, undef, undef, undef, undef, undef, undef, undef, undef, undef, undef, undef, undef, undef, undef, undef, undef, undef, undef, undef, undef, undef, undef, undef, undef, undef, undef, undef, undef, undef, undef, undef, undef, undef, undef, undef, undef, undef, undef, undef, undef, undef, undef, undef, undef, undef, undef, undef, undef, undef, undef, undef], []⟩ [.code (Try.f23.body.getD .skip)]) (b₀.at a₀ (.inRegion ops₀ (i₀ :: rest₀) :: k₀) :: cs)) w := by
  simp only [Try.f23, Option.getD_some]
  repeat (first
    | (refine Goes.step rfl (fun w₁ h₁ => ?_); replace hF := hFr _ _ h₁ hF; clear h₁; rw [stepG_region_end]; simp only [goes_go]; refine ⟨d0_none _, ?_⟩)
    | (refine Goes.step rfl (fun w₁ h₁ => ?_); replace hF := hFr _ _ h₁ hF; clear h₁; rw [stepG_skip]; simp only [goes_go]; refine ⟨d0_none _, ?_⟩)
    | (refine Goes.step rfl (fun w₁ h₁ => ?_); replace hF := hFr _ _ h₁ hF; clear h₁; rw [stepG_seq]; simp only [goes_go]; refine ⟨d0_none _, ?_⟩)
    | (refine Goes.step rfl (fun w₁ h₁ => ?_); replace hF := hFr _ _ h₁ hF; clear h₁; rw [stepG_block]; simp only [goes_go]; refine ⟨d0_none _, ?_⟩)
    | (refine Goes.step rfl (fun w₁ h₁ => ?_); replace hF := hFr _ _ h₁ hF; clear h₁; rw [stepG_inBlock]; simp only [goes_go]; refine ⟨d0_none _, ?_⟩)
    | (refine Goes.step rfl (fun w₁ h₁ => ?_); replace hF := hFr _ _ h₁ hF; clear h₁; rw [stepG_region]; simp only [goes_go, List.size_toArray, List.length_cons, List.length_nil, Nat.reduceAdd, Nat.zero_add, List.range, List.range.loop]; refine ⟨d0_none _, ?_⟩)
    | (refine Goes.step rfl (fun w₁ h₁ => ?_); replace hF := hFr _ _ h₁ hF; clear h₁; rw [stepG_cond (t := true) rfl]; simp only [goes_go, if_true, if_false, Bool.false_eq_true, ↓reduceIte]; refine ⟨d0_none _, ?_⟩)
    | (refine Goes.step rfl (fun w₁ h₁ => ?_); replace hF := hFr _ _ h₁ hF; clear h₁; rw [stepG_cond (t := false) rfl]; simp only [goes_go, if_true, if_false, Bool.false_eq_true, ↓reduceIte]; refine ⟨d0_none _, ?_⟩)
    | (refine Goes.step rfl (fun w₁ h₁ => ?_); replace hF := hFr _ _ h₁ hF; clear h₁; rw [stepG_unwanted rfl rfl]; simp only [goes_go]; refine ⟨d0_none _, ?_⟩; walk_nrm)
    | (refine Goes.step rfl (fun w₁ h₁ => ?_); replace hF := hFr _ _ h₁ hF; clear h₁; rw [stepG_defer rfl rfl (by decide) rfl]; simp only [goes_go]; refine ⟨d0_none _, ?_⟩; walk_nrm)
    | (refine Goes.step rfl (fun w₁ h₁ => ?_); replace hF := hFr _ _ h₁ hF; clear h₁; rw [stepG_entry_pure (.bool false) rfl rfl (by decide) rfl wgLib.f_inBubble (x_inBubble_n link) (x_inBubble_b link) (x_inBubble_x link) (x_inBubble_f link)]; simp only [goes_go]; refine ⟨d0_none _, ?_⟩; walk_nrm)
    | (refine Goes.step rfl (fun w₁ h₁ => ?_); replace hF := hFr _ _ h₁ hF; clear h₁; refine goes_oper_k rfl rfl (by decide) (fun K hK => ?_); go_simp; try w_num
       refine hK _ _ ⟨d0_evs _ ?_, ?_⟩
       · intro e he; have hm := mem_listed he; simp [go_sem] at hm
       clear hK K; try walk_nrm))
  refine Goes.stop (fun w₁ h₁ => ?_)
  replace hF := hFr _ _ h₁ hF
  clear h₁
  refine ⟨rfl, _, by rw [hP]; exact stepG_mark0 .disable (by simp) rfl rfl (by decide) rfl wgLib.f_disable (x_disable_n link) (x_disable_b link) (x_disable_x link) (x_disable_f link), 60, ?_⟩
  rw [hP]
  walk_nrm
  repeat (first
    | (refine Goes.step rfl (fun w₁ h₁ => ?_); replace hF := hFr _ _ h₁ hF; clear h₁; rw [stepG_region_end]; simp only [goes_go]; refine ⟨d0_none _, ?_⟩)
    | (refine Goes.step rfl (fun w₁ h₁ => ?_); replace hF := hFr _ _ h₁ hF; clear h₁; rw [stepG_skip]; simp only [goes_go]; refine ⟨d0_none _, ?_⟩)
    | (refine Goes.step rfl (fun w₁ h₁ => ?_); replace hF := hFr _ _ h₁ hF; clear h₁; rw [stepG_seq]; simp only [goes_go]; refine ⟨d0_none _, ?_⟩)
    | (refine Goes.step rfl (fun w₁ h₁ => ?_); replace hF := hFr _ _ h₁ hF; clear h₁; rw [stepG_block]; simp only [goes_go]; refine ⟨d0_none _, ?_⟩)
    | (refine Goes.step rfl (fun w₁ h₁ => ?_); replace hF := hFr _ _ h₁ hF; clear h₁; rw [stepG_inBlock]; simp only [goes_go]; refine ⟨d0_none _, ?_⟩)
    | (refine Goes.step rfl (fun w₁ h₁ => ?_); replace hF := hFr _ _ h₁ hF; clear h₁; rw [stepG_region]; simp only [goes_go, List.size_toArray, List.length_cons, List.length_nil, Nat.reduceAdd, Nat.zero_add, List.range, List.range.loop]; refine ⟨d0_none _, ?_⟩)
    | (refine Goes.step rfl (fun w₁ h₁ => ?_); replace hF := hFr _ _ h₁ hF; clear h₁; rw [stepG_cond (t := true) rfl]; simp only [goes_go, if_true, if_false, Bool.false_eq_true, ↓reduceIte]; refine ⟨d0_none _, ?_⟩)
    | (refine Goes.step rfl (fun w₁ h₁ => ?_); replace hF := hFr _ _ h₁ hF; clear h₁; rw [stepG_cond (t := false) rfl]; simp only [goes_go, if_true, if_false, Bool.false_eq_true, ↓reduceIte]; refine ⟨d0_none _, ?_⟩)
    | (refine Goes.step rfl (fun w₁ h₁ => ?_); replace hF := hFr _ _ h₁ hF; clear h₁; rw [stepG_unwanted rfl rfl]; simp only [goes_go]; refine ⟨d0_none _, ?_⟩; walk_nrm)
    | (refine Goes.step rfl (fun w₁ h₁ => ?_); replace hF := hFr _ _ h₁ hF; clear h₁; rw [stepG_defer rfl rfl (by decide) rfl]; simp only [goes_go]; refine ⟨d0_none _, ?_⟩; walk_nrm)
    | (refine Goes.step rfl (fun w₁ h₁ => ?_); replace hF := hFr _ _ h₁ hF; clear h₁; rw [stepG_entry_pure (.bool false) rfl rfl (by decide) rfl wgLib.f_inBubble (x_inBubble_n link) (x_inBubble_b link) (x_inBubble_x link) (x_inBubble_f link)]; simp only [goes_go]; refine ⟨d0_none _, ?_⟩; walk_nrm)
    | (refine Goes.step rfl (fun w₁ h₁ => ?_); replace hF := hFr _ _ h₁ hF; clear h₁; refine goes_oper_k rfl rfl (by decide) (fun K hK => ?_); go_simp; try w_num
       refine hK _ _ ⟨d0_evs _ ?_, ?_⟩
       · intro e he; have hm := mem_listed he; simp [go_sem] at hm
       clear hK K; try walk_nrm))
  refine Goes.step rfl (fun w₁ h₁ => ?_); replace hF := hFr _ _ h₁ hF; clear h₁
  refine goes_call rfl rfl (by decide) rfl Try.func33 (by rfl) rfl ⟨d0_none _, ?_⟩
  walk_nrmf Try.f33
  repeat (first
    | (refine Goes.step rfl (fun w₁ h₁ => ?_); replace hF := hFr _ _ h₁ hF; clear h₁; rw [stepG_region_end]; simp only [goes_go]; refine ⟨d0_none _, ?_⟩)
    | (refine Goes.step rfl (fun w₁ h₁ => ?_); replace hF := hFr _ _ h₁ hF; clear h₁; rw [stepG_skip]; simp only [goes_go]; refine ⟨d0_none _, ?_⟩)
    | (refine Goes.step rfl (fun w₁ h₁ => ?_); replace hF := hFr _ _ h₁ hF; clear h₁; rw [stepG_seq]; simp only [goes_go]; refine ⟨d0_none _, ?_⟩)
    | (refine Goes.step rfl (fun w₁ h₁ => ?_); replace hF := hFr _ _ h₁ hF; clear h₁; rw [stepG_block]; simp only [goes_go]; refine ⟨d0_none _, ?_⟩)
    | (refine Goes.step rfl (fun w₁ h₁ => ?_); replace hF := hFr _ _ h₁ hF; clear h₁; rw [stepG_inBlock]; simp only [goes_go]; refine ⟨d0_none _, ?_⟩)
    | (refine Goes.step rfl (fun w₁ h₁ => ?_); replace hF := hFr _ _ h₁ hF; clear h₁; rw [stepG_region]; simp only [goes_go, List.size_toArray, List.length_cons, List.length_nil, Nat.reduceAdd, Nat.zero_add, List.range, List.range.loop]; refine ⟨d0_none _, ?_⟩)
    | (refine Goes.step rfl (fun w₁ h₁ => ?_); replace hF := hFr _ _ h₁ hF; clear h₁; rw [stepG_cond (t := true) rfl]; simp only [goes_go, if_true, if_false, Bool.false_eq_true, ↓reduceIte]; refine ⟨d0_none _, ?_⟩)
    | (refine Goes.step rfl (fun w₁ h₁ => ?_); replace hF := hFr _ _ h₁ hF; clear h₁; rw [stepG_cond (t := false) rfl]; simp only [goes_go, if_true, if_false, Bool.false_eq_true, ↓reduceIte]; refine ⟨d0_none _, ?_⟩)
    | (refine Goes.step rfl (fun w₁ h₁ => ?_); replace hF := hFr _ _ h₁ hF; clear h₁; rw [stepG_unwanted rfl rfl]; simp only [goes_go]; refine ⟨d0_none _, ?_⟩; walk_nrm)
    | (refine Goes.step rfl (fun w₁ h₁ => ?_); replace hF := hFr _ _ h₁ hF; clear h₁; rw [stepG_defer rfl rfl (by decide) rfl]; simp only [goes_go]; refine ⟨d0_none _, ?_⟩; walk_nrm)
    | (refine Goes.step rfl (fun w₁ h₁ => ?_); replace hF := hFr _ _ h₁ hF; clear h₁; rw [stepG_entry_pure (.bool false) rfl rfl (by decide) rfl wgLib.f_inBubble (x_inBubble_n link) (x_inBubble_b link) (x_inBubble_x link) (x_inBubble_f link)]; simp only [goes_go]; refine ⟨d0_none _, ?_⟩; walk_nrm)
    | (refine Goes.step rfl (fun w₁ h₁ => ?_); replace hF := hFr _ _ h₁ hF; clear h₁; refine goes_oper_k rfl rfl (by decide) (fun K hK => ?_); go_simp; try w_num
       refine hK _ _ ⟨d0_evs _ ?_, ?_⟩
       · intro e he; have hm := mem_listed he; simp [go_sem] at hm
       clear hK K; try walk_nrm))
  refine Goes.stop (fun w₂ h₂ => ?_)
  replace hF := hFr _ _ h₂ hF
  clear h₂
  refine ⟨rfl, fun v hv hw => ?_⟩
  rw [hty] at hw
  rw [hP]
  have hFs : ∀ x : Int, F (w₂.setCell (stA C.Wg) (.int .u64 x)) := fun x => hFr _ _ (AsideM.setSt w₂ (by rw [hty]; exact hw) x) hF
  rcases Nat.eq_zero_or_pos v with rfl | hvp
  · -- the first
    replace hw : WgAt 47 C.Wg w₂ 0 0 := by simpa using hw
    have z : (((0 : Nat) : Int) + 1) * KK = KK := by simp
    rw [z]
    have e0 : IntKind.u64.wrap (0 + 4294967296) = KK := by decide
    refine ⟨_, (stepG_add_atomic rfl rfl (by decide) rfl wgLib.f_addU64 (x_addU64_n link) (x_addU64_b link) (x_addU64_x link) .u64 (x_addU64_f link) rfl rfl hw.cellSt (hw.thaw 0)).trans (by rw [e0]; rfl), nb + 150, ?_⟩
    replace hF := hFs KK
    clear hw hFs e0 z
    rw [hP]
    simp only [KK] at hF ⊢
    walk_nrm
    repeat (first
      | (refine Goes.step rfl (fun w₁ h₁ => ?_); replace hF := hFr _ _ h₁ hF; clear h₁; rw [stepG_region_end]; simp only [goes_go]; refine ⟨d0_none _, ?_⟩)
      | (refine Goes.step rfl (fun w₁ h₁ => ?_); replace hF := hFr _ _ h₁ hF; clear h₁; rw [stepG_skip]; simp only [goes_go]; refine ⟨d0_none _, ?_⟩)
      | (refine Goes.step rfl (fun w₁ h₁ => ?_); replace hF := hFr _ _ h₁ hF; clear h₁; rw [stepG_seq]; simp only [goes_go]; refine ⟨d0_none _, ?_⟩)
      | (refine Goes.step rfl (fun w₁ h₁ => ?_); replace hF := hFr _ _ h₁ hF; clear h₁; rw [stepG_block]; simp only [goes_go]; refine ⟨d0_none _, ?_⟩)
      | (refine Goes.step rfl (fun w₁ h₁ => ?_); replace hF := hFr _ _ h₁ hF; clear h₁; rw [stepG_inBlock]; simp only [goes_go]; refine ⟨d0_none _, ?_⟩)
      | (refine Goes.step rfl (fun w₁ h₁ => ?_); replace hF := hFr _ _ h₁ hF; clear h₁; rw [stepG_ret']; simp only [goes_go]; refine ⟨d0_none _, ?_⟩)
      | (refine Goes.step rfl (fun w₁ h₁ => ?_); replace hF := hFr _ _ h₁ hF; clear h₁; rw [stepG_region]; simp only [goes_go, List.size_toArray, List.length_cons, List.length_nil, Nat.reduceAdd, Nat.zero_add, List.range, List.range.loop]; refine ⟨d0_none _, ?_⟩)
      | (refine Goes.step rfl (fun w₁ h₁ => ?_); replace hF := hFr _ _ h₁ hF; clear h₁; rw [stepG_cond (t := true) rfl]; simp only [goes_go, if_true, if_false, Bool.false_eq_true, ↓reduceIte]; refine ⟨d0_none _, ?_⟩)
      | (refine Goes.step rfl (fun w₁ h₁ => ?_); replace hF := hFr _ _ h₁ hF; clear h₁; rw [stepG_cond (t := false) rfl]; simp only [goes_go, if_true, if_false, Bool.false_eq_true, ↓reduceIte]; refine ⟨d0_none _, ?_⟩)
      | (refine Goes.step rfl (fun w₁ h₁ => ?_); replace hF := hFr _ _ h₁ hF; clear h₁; rw [stepG_unwanted rfl rfl]; simp only [goes_go]; refine ⟨d0_none _, ?_⟩; walk_nrm)
      | (refine Goes.step rfl (fun w₁ h₁ => ?_); replace hF := hFr _ _ h₁ hF; clear h₁; rw [stepG_defer rfl rfl (by decide) rfl]; simp only [goes_go]; refine ⟨d0_none _, ?_⟩; walk_nrm)
      | (refine Goes.step rfl (fun w₁ h₁ => ?_); replace hF := hFr _ _ h₁ hF; clear h₁; rw [stepG_entry_pure (.bool false) rfl rfl (by decide) rfl wgLib.f_inBubble (x_inBubble_n link) (x_inBubble_b link) (x_inBubble_x link) (x_inBubble_f link)]; simp only [goes_go]; refine ⟨d0_none _, ?_⟩; walk_nrm)
      | (refine Goes.step rfl (fun w₁ h₁ => ?_); replace hF := hFr _ _ h₁ hF; clear h₁; refine goes_oper_k rfl rfl (by decide) (fun K hK => ?_); go_simp; try w_num
         refine hK _ _ ⟨d0_evs _ ?_, ?_⟩
         · intro e he; have hm := mem_listed he; simp [go_sem] at hm
         clear hK K; try walk_nrm))
    refine Goes.step rfl (fun w₁ h₁ => ?_); replace hF := hFr _ _ h₁ hF; clear h₁
    refine goes_leave1 rfl rfl Try.func33 rfl ⟨d0_none _, ?_⟩
    walk_nrm
    repeat (first
      | (refine Goes.step rfl (fun w₁ h₁ => ?_); replace hF := hFr _ _ h₁ hF; clear h₁; rw [stepG_region_end]; simp only [goes_go]; refine ⟨d0_none _, ?_⟩)
      | (refine Goes.step rfl (fun w₁ h₁ => ?_); replace hF := hFr _ _ h₁ hF; clear h₁; rw [stepG_skip]; simp only [goes_go]; refine ⟨d0_none _, ?_⟩)
      | (refine Goes.step rfl (fun w₁ h₁ => ?_); replace hF := hFr _ _ h₁ hF; clear h₁; rw [stepG_seq]; simp only [goes_go]; refine ⟨d0_none _, ?_⟩)
      | (refine Goes.step rfl (fun w₁ h₁ => ?_); replace hF := hFr _ _ h₁ hF; clear h₁; rw [stepG_block]; simp only [goes_go]; refine ⟨d0_none _, ?_⟩)
      | (refine Goes.step rfl (fun w₁ h₁ => ?_); replace hF := hFr _ _ h₁ hF; clear h₁; rw [stepG_inBlock]; simp only [goes_go]; refine ⟨d0_none _, ?_⟩)
      | (refine Goes.step rfl (fun w₁ h₁ => ?_); replace hF := hFr _ _ h₁ hF; clear h₁; rw [stepG_region]; simp only [goes_go, List.size_toArray, List.length_cons, List.length_nil, Nat.reduceAdd, Nat.zero_add, List.range, List.range.loop]; refine ⟨d0_none _, ?_⟩)
      | (refine Goes.step rfl (fun w₁ h₁ => ?_); replace hF := hFr _ _ h₁ hF; clear h₁; rw [stepG_cond (t := true) rfl]; simp only [goes_go, if_true, if_false, Bool.false_eq_true, ↓reduceIte]; refine ⟨d0_none _, ?_⟩)
      | (refine Goes.step rfl (fun w₁ h₁ => ?_); replace hF := hFr _ _ h₁ hF; clear h₁; rw [stepG_cond (t := false) rfl]; simp only [goes_go, if_true, if_false, Bool.false_eq_true, ↓reduceIte]; refine ⟨d0_none _, ?_⟩)
      | (refine Goes.step rfl (fun w₁ h₁ => ?_); replace hF := hFr _ _ h₁ hF; clear h₁; rw [stepG_unwanted rfl rfl]; simp only [goes_go]; refine ⟨d0_none _, ?_⟩; walk_nrm)
      | (refine Goes.step rfl (fun w₁ h₁ => ?_); replace hF := hFr _ _ h₁ hF; clear h₁; rw [stepG_defer rfl rfl (by decide) rfl]; simp only [goes_go]; refine ⟨d0_none _, ?_⟩; walk_nrm)
      | (refine Goes.step rfl (fun w₁ h₁ => ?_); replace hF := hFr _ _ h₁ hF; clear h₁; rw [stepG_entry_pure (.bool false) rfl rfl (by decide) rfl wgLib.f_inBubble (x_inBubble_n link) (x_inBubble_b link) (x_inBubble_x link) (x_inBubble_f link)]; simp only [goes_go]; refine ⟨d0_none _, ?_⟩; walk_nrm)
      | (refine Goes.step rfl (fun w₁ h₁ => ?_); replace hF := hFr _ _ h₁ hF; clear h₁; refine goes_oper_k rfl rfl (by decide) (fun K hK => ?_); go_simp; try w_num
         refine hK _ _ ⟨d0_evs _ ?_, ?_⟩
         · intro e he; have hm := mem_listed he; simp [go_sem] at hm
         clear hK K; try walk_nrm))
    refine Goes.step rfl (fun w₁ h₁ => ?_); replace hF := hFr _ _ h₁ hF; clear h₁
    have hc := (Go.ConcN.Gen.WgLive.cell1 (hl _ hF)).choose_spec
    have hcv := run_convert_to_unsafe (P := Try.prog) wgLib.underlying_tPU32 wgLib.underlying_tUP wgLib.room_tU32 hc
    have hce := fun es => events_convert_to_unsafe (P := Try.prog) wgLib.underlying_tPU32 wgLib.underlying_tUP wgLib.room_tU32 hc es
    refine goes_oper_k rfl rfl (by decide) (fun K hK => ?_)
    go_simp
    refine hK _ _ ⟨d0_evs _ (fun e he => by (have hm := mem_listed he; simp [go_sem, *] at hm)), ?_⟩; clear hK K hcv hce hc
    try walk_nrm
    refine Goes.step rfl (fun w₁ h₁ => ?_); replace hF := hFr _ _ h₁ hF; clear h₁
    rw [stepG_markAt .read (by simp) rfl rfl (by decide) rfl wgLib.f_raceRead (x_raceRead_n link) (x_raceRead_b link) (x_raceRead_x link) (x_raceRead_f link) (ad := ⟨C.Wg, 1, none⟩) (by simp [Act.eval])]
    simp only [goes_go]
    refine ⟨d0_saidread hap hB _, ?_⟩
    walk_nrm
    repeat (first
      | (refine Goes.step rfl (fun w₁ h₁ => ?_); replace hF := hFr _ _ h₁ hF; clear h₁; rw [stepG_region_end]; simp only [goes_go]; refine ⟨d0_none _, ?_⟩)
      | (refine Goes.step rfl (fun w₁ h₁ => ?_); replace hF := hFr _ _ h₁ hF; clear h₁; rw [stepG_skip]; simp only [goes_go]; refine ⟨d0_none _, ?_⟩)
      | (refine Goes.step rfl (fun w₁ h₁ => ?_); replace hF := hFr _ _ h₁ hF; clear h₁; rw [stepG_seq]; simp only [goes_go]; refine ⟨d0_none _, ?_⟩)
      | (refine Goes.step rfl (fun w₁ h₁ => ?_); replace hF := hFr _ _ h₁ hF; clear h₁; rw [stepG_block]; simp only [goes_go]; refine ⟨d0_none _, ?_⟩)
      | (refine Goes.step rfl (fun w₁ h₁ => ?_); replace hF := hFr _ _ h₁ hF; clear h₁; rw [stepG_inBlock]; simp only [goes_go]; refine ⟨d0_none _, ?_⟩)
      | (refine Goes.step rfl (fun w₁ h₁ => ?_); replace hF := hFr _ _ h₁ hF; clear h₁; rw [stepG_ret']; simp only [goes_go]; refine ⟨d0_none _, ?_⟩)
      | (refine Goes.step rfl (fun w₁ h₁ => ?_); replace hF := hFr _ _ h₁ hF; clear h₁; rw [stepG_region]; simp only [goes_go, List.size_toArray, List.length_cons, List.length_nil, Nat.reduceAdd, Nat.zero_add, List.range, List.range.loop]; refine ⟨d0_none _, ?_⟩)
      | (refine Goes.step rfl (fun w₁ h₁ => ?_); replace hF := hFr _ _ h₁ hF; clear h₁; rw [stepG_cond (t := true) rfl]; simp only [goes_go, if_true, if_false, Bool.false_eq_true, ↓reduceIte]; refine ⟨d0_none _, ?_⟩)
      | (refine Goes.step rfl (fun w₁ h₁ => ?_); replace hF := hFr _ _ h₁ hF; clear h₁; rw [stepG_cond (t := false) rfl]; simp only [goes_go, if_true, if_false, Bool.false_eq_true, ↓reduceIte]; refine ⟨d0_none _, ?_⟩)
      | (refine Goes.step rfl (fun w₁ h₁ => ?_); replace hF := hFr _ _ h₁ hF; clear h₁; rw [stepG_unwanted rfl rfl]; simp only [goes_go]; refine ⟨d0_none _, ?_⟩; walk_nrm)
      | (refine Goes.step rfl (fun w₁ h₁ => ?_); replace hF := hFr _ _ h₁ hF; clear h₁; rw [stepG_defer rfl rfl (by decide) rfl]; simp only [goes_go]; refine ⟨d0_none _, ?_⟩; walk_nrm)
      | (refine Goes.step rfl (fun w₁ h₁ => ?_); replace hF := hFr _ _ h₁ hF; clear h₁; rw [stepG_entry_pure (.bool false) rfl rfl (by decide) rfl wgLib.f_inBubble (x_inBubble_n link) (x_inBubble_b link) (x_inBubble_x link) (x_inBubble_f link)]; simp only [goes_go]; refine ⟨d0_none _, ?_⟩; walk_nrm)
      | (refine Goes.step rfl (fun w₁ h₁ => ?_); replace hF := hFr _ _ h₁ hF; clear h₁; refine goes_oper_k rfl rfl (by decide) (fun K hK => ?_); go_simp; try w_num
         refine hK _ _ ⟨d0_evs _ ?_, ?_⟩
         · intro e he; have hm := mem_listed he; simp [go_sem] at hm
         clear hK K; try walk_nrm))
    refine Goes.stop (fun w₃ h₃ => ?_)
    replace hF := hFr _ _ h₃ hF
    clear h₃
    refine ⟨rfl, _, by rw [hP]; exact stepG_unwind_entry (v := .tuple #[]) (evs := #[mk .enable]) rfl wgLib.f_enable (x_enable_n link) (x_enable_b link) (x_enable_x link) (x_enable_f link) (by simp [Extern.Race.none_]) (by simp [mk]) (by simp [mk]), nb + 1, ?_⟩
    rw [hP]
    refine Goes.step rfl (fun w₁ h₁ => ?_); replace hF := hFr _ _ h₁ hF; clear h₁
    refine goes_leave0 rfl rfl Try.func23 rfl ⟨d0_none _, ?_⟩
    walk_nrm
    exact hT _ hF
  · -- one more
    obtain ⟨V, hV⟩ : ∃ V : Int, V = (v : Int) + 1 := ⟨_, rfl⟩
    obtain ⟨S, hS⟩ : ∃ S : Int, S = V * KK := ⟨_, rfl⟩
    have eS : IntKind.u64.wrap ((v : Int) * KK + 4294967296) = S := by rw [IntKind.wrap_u64, hS, hV]; simp only [KK]; omega
    rw [← hV, ← hS]
    have a1 : S / 4294967296 = V := by rw [hS]; simp only [KK]; omega
    have b1 : bits .and .u64 S 2147483648 = 0 := by rw [hS, hV]; have := Go.ConcN.st_flag (v + 1) 0 (by omega) (by omega); simpa [KK] using this
    have b2 : bits .and .u64 S 2147483647 = 0 := by rw [hS, hV]; have := Go.ConcN.st_waiters (v + 1) 0 (by omega) (by omega); simpa [KK] using this
    have c1 : IntKind.i32.wrap V = V := by rw [IntKind.wrap_i32]; omega
    have hV1 : 1 < V := by omega
    have hV2 : V < 2147483648 := by omega
    have q1 : (V == 1) = false := by simp; omega
    have q2 : decide (V = 1) = false := decide_eq_false (by omega)
    have q3 : decide (V < 0) = false := decide_eq_false (by omega)
    have q4 : decide (0 < V) = true := decide_eq_true (by omega)
    have q5 : (V == 0) = false := by simp; omega
    have q6 : decide (V = 0) = false := decide_eq_false (by omega)
    refine ⟨_, (stepG_add_atomic rfl rfl (by decide) rfl wgLib.f_addU64 (x_addU64_n link) (x_addU64_b link) (x_addU64_x link) .u64 (x_addU64_f link) rfl rfl hw.cellSt (hw.thaw 0)).trans (by rw [eS]; rfl), nb + 150, ?_⟩
    replace hF := hFs S
    clear hw hFs hS hV eS
    rw [hP]
    walk_nrm
    repeat (first
      | (refine Goes.step rfl (fun w₁ h₁ => ?_); replace hF := hFr _ _ h₁ hF; clear h₁; rw [stepG_region_end]; simp only [goes_go]; refine ⟨d0_none _, ?_⟩)
      | (refine Goes.step rfl (fun w₁ h₁ => ?_); replace hF := hFr _ _ h₁ hF; clear h₁; rw [stepG_skip]; simp only [goes_go]; refine ⟨d0_none _, ?_⟩)
      | (refine Goes.step rfl (fun w₁ h₁ => ?_); replace hF := hFr _ _ h₁ hF; clear h₁; rw [stepG_seq]; simp only [goes_go]; refine ⟨d0_none _, ?_⟩)
      | (refine Goes.step rfl (fun w₁ h₁ => ?_); replace hF := hFr _ _ h₁ hF; clear h₁; rw [stepG_block]; simp only [goes_go]; refine ⟨d0_none _, ?_⟩)
      | (refine Goes.step rfl (fun w₁ h₁ => ?_); replace hF := hFr _ _ h₁ hF; clear h₁; rw [stepG_inBlock]; simp only [goes_go]; refine ⟨d0_none _, ?_⟩)
      | (refine Goes.step rfl (fun w₁ h₁ => ?_); replace hF := hFr _ _ h₁ hF; clear h₁; rw [stepG_ret']; simp only [goes_go]; refine ⟨d0_none _, ?_⟩)
      | (refine Goes.step rfl (fun w₁ h₁ => ?_); replace hF := hFr _ _ h₁ hF; clear h₁; rw [stepG_region]; simp only [goes_go, List.size_toArray, List.length_cons, List.length_nil, Nat.reduceAdd, Nat.zero_add, List.range, List.range.loop]; refine ⟨d0_none _, ?_⟩)
      | (refine Goes.step rfl (fun w₁ h₁ => ?_); replace hF := hFr _ _ h₁ hF; clear h₁; rw [stepG_cond (t := true) rfl]; simp only [goes_go, if_true, if_false, Bool.false_eq_true, ↓reduceIte]; refine ⟨d0_none _, ?_⟩)
      | (refine Goes.step rfl (fun w₁ h₁ => ?_); replace hF := hFr _ _ h₁ hF; clear h₁; rw [stepG_cond (t := false) rfl]; simp only [goes_go, if_true, if_false, Bool.false_eq_true, ↓reduceIte]; refine ⟨d0_none _, ?_⟩)
      | (refine Goes.step rfl (fun w₁ h₁ => ?_); replace hF := hFr _ _ h₁ hF; clear h₁; rw [stepG_unwanted rfl rfl]; simp only [goes_go]; refine ⟨d0_none _, ?_⟩; walk_nrm)
      | (refine Goes.step rfl (fun w₁ h₁ => ?_); replace hF := hFr _ _ h₁ hF; clear h₁; rw [stepG_defer rfl rfl (by decide) rfl]; simp only [goes_go]; refine ⟨d0_none _, ?_⟩; walk_nrm)
      | (refine Goes.step rfl (fun w₁ h₁ => ?_); replace hF := hFr _ _ h₁ hF; clear h₁; rw [stepG_entry_pure (.bool false) rfl rfl (by decide) rfl wgLib.f_inBubble (x_inBubble_n link) (x_inBubble_b link) (x_inBubble_x link) (x_inBubble_f link)]; simp only [goes_go]; refine ⟨d0_none _, ?_⟩; walk_nrm)
      | (refine Goes.step rfl (fun w₁ h₁ => ?_); replace hF := hFr _ _ h₁ hF; clear h₁; refine goes_oper_k rfl rfl (by decide) (fun K hK => ?_); go_simp; try w_num
         refine hK _ _ ⟨d0_evs _ ?_, ?_⟩
         · intro e he; have hm := mem_listed he; simp [go_sem] at hm
         clear hK K; try walk_nrm))
    refine Goes.step rfl (fun w₁ h₁ => ?_); replace hF := hFr _ _ h₁ hF; clear h₁
    refine goes_leave1 rfl rfl Try.func33 rfl ⟨d0_none _, ?_⟩
    walk_nrm
    repeat (first
      | (refine Goes.step rfl (fun w₁ h₁ => ?_); replace hF := hFr _ _ h₁ hF; clear h₁; rw [stepG_region_end]; simp only [goes_go]; refine ⟨d0_none _, ?_⟩)
      | (refine Goes.step rfl (fun w₁ h₁ => ?_); replace hF := hFr _ _ h₁ hF; clear h₁; rw [stepG_skip]; simp only [goes_go]; refine ⟨d0_none _, ?_⟩)
      | (refine Goes.step rfl (fun w₁ h₁ => ?_); replace hF := hFr _ _ h₁ hF; clear h₁; rw [stepG_seq]; simp only [goes_go]; refine ⟨d0_none _, ?_⟩)
      | (refine Goes.step rfl (fun w₁ h₁ => ?_); replace hF := hFr _ _ h₁ hF; clear h₁; rw [stepG_block]; simp only [goes_go]; refine ⟨d0_none _, ?_⟩)
      | (refine Goes.step rfl (fun w₁ h₁ => ?_); replace hF := hFr _ _ h₁ hF; clear h₁; rw [stepG_inBlock]; simp only [goes_go]; refine ⟨d0_none _, ?_⟩)
      | (refine Goes.step rfl (fun w₁ h₁ => ?_); replace hF := hFr _ _ h₁ hF; clear h₁; rw [stepG_ret']; simp only [goes_go]; refine ⟨d0_none _, ?_⟩)
      | (refine Goes.step rfl (fun w₁ h₁ => ?_); replace hF := hFr _ _ h₁ hF; clear h₁; rw [stepG_region]; simp only [goes_go, List.size_toArray, List.length_cons, List.length_nil, Nat.reduceAdd, Nat.zero_add, List.range, List.range.loop]; refine ⟨d0_none _, ?_⟩)
      | (refine Goes.step rfl (fun w₁ h₁ => ?_); replace hF := hFr _ _ h₁ hF; clear h₁; rw [stepG_cond (t := true) rfl]; simp only [goes_go, if_true, if_false, Bool.false_eq_true, ↓reduceIte]; refine ⟨d0_none _, ?_⟩)
      | (refine Goes.step rfl (fun w₁ h₁ => ?_); replace hF := hFr _ _ h₁ hF; clear h₁; rw [stepG_cond (t := false) rfl]; simp only [goes_go, if_true, if_false, Bool.false_eq_true, ↓reduceIte]; refine ⟨d0_none _, ?_⟩)
      | (refine Goes.step rfl (fun w₁ h₁ => ?_); replace hF := hFr _ _ h₁ hF; clear h₁; rw [stepG_unwanted rfl rfl]; simp only [goes_go]; refine ⟨d0_none _, ?_⟩; walk_nrm)
      | (refine Goes.step rfl (fun w₁ h₁ => ?_); replace hF := hFr _ _ h₁ hF; clear h₁; rw [stepG_defer rfl rfl (by decide) rfl]; simp only [goes_go]; refine ⟨d0_none _, ?_⟩; walk_nrm)
      | (refine Goes.step rfl (fun w₁ h₁ => ?_); replace hF := hFr _ _ h₁ hF; clear h₁; rw [stepG_entry_pure (.bool false) rfl rfl (by decide) rfl wgLib.f_inBubble (x_inBubble_n link) (x_inBubble_b link) (x_inBubble_x link) (x_inBubble_f link)]; simp only [goes_go]; refine ⟨d0_none _, ?_⟩; walk_nrm)
      | (refine Goes.step rfl (fun w₁ h₁ => ?_); replace hF := hFr _ _ h₁ hF; clear h₁; refine goes_oper_k rfl rfl (by decide) (fun K hK => ?_); go_simp; try w_num
         refine hK _ _ ⟨d0_evs _ ?_, ?_⟩
         · intro e he; have hm := mem_listed he; simp [go_sem] at hm
         clear hK K; try walk_nrm))
    refine Goes.stop (fun w₃ h₃ => ?_)
    replace hF := hFr _ _ h₃ hF
    clear h₃
    refine ⟨rfl, _, by rw [hP]; exact stepG_unwind_entry (v := .tuple #[]) (evs := #[mk .enable]) rfl wgLib.f_enable (x_enable_n link) (x_enable_b link) (x_enable_x link) (x_enable_f link) (by simp [Extern.Race.none_]) (by simp [mk]) (by simp [mk]), nb + 1, ?_⟩
    rw [hP]
    refine Goes.step rfl (fun w₁ h₁ => ?_); replace hF := hFr _ _ h₁ hF; clear h₁
    refine goes_leave0 rfl rfl Try.func23 rfl ⟨d0_none _, ?_⟩
    walk_nrm
    exact hT _ hF
end Go.Proofs.Ytdpagejckahkkaa.Net
