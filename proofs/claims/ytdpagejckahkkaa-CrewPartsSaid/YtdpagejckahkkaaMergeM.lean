/- crew.Merge: goroutine 0 takes its turns, shuts the stop and waits. -/
import Derived.Test.YtdpagejckahkkaaMergeL
import Derived.Test.YtdpagejckahkkaaRelay3
set_option linter.unusedSimpArgs false
set_option linter.unusedVariables false
set_option maxRecDepth 100000
namespace Go.Proofs.Ytdpagejckahkkaa.Net
open Go Go.Conc Go.RowKit Go.ConcR.Gen
open Go.ConcN (ShN WgLive upd upd_same upd_ne)
open Go.ConcR (stA smA rd wr mk WgAt KK)

noncomputable def in14b : Code := match Lb14 with | .seq _ (.seq _ (.seq (.block _ c) _)) => c | _ => .skip
noncomputable def post14b : Code := match Lb14 with | .seq _ (.seq _ (.seq _ c)) => c | _ => .skip
noncomputable def ops14r : Array Oper := match in14b with | .seq _ (.seq _ (.seq (.region _ ops _) _)) => ops | _ => #[]
noncomputable def rest14r : Code := match in14b with | .seq _ (.seq _ (.seq _ c)) => c | _ => .skip
noncomputable def ops14c : Array Oper := match tail14 8 with | .seq (.region _ ops _) _ => ops | _ => #[]
noncomputable def ops14w : Array Oper := match tail14 9 with | .seq (.region _ ops _) _ => ops | _ => #[]

/-- What goroutine 0 knows while it takes its turns. -/
structure TF (I : MIn) (out : Value) (xs : List Int) (w : World) : Prop where
  km : KM I w
  arr : SendArr I I.ps.length w
  own : w.ownsRow (I.N + 3 + I.ps.length) 3 1 out xs.length (xs.map num)
  size : I.N + 3 + I.ps.length ≤ w.heap.size
  most : w.heap.size ≤ I.N + 3 + I.ps.length + 2 * xs.length

section
variable {I : MIn} {S : Loc → Prop} {b B m : Nat} {w w₁ : World} {out : Value} {xs : List Int}
theorem own_rely {base n : Nat} {v : Value} {l : List Value} (h : w.ownsRow base 3 1 v n l) (hb : I.N + 3 + I.ps.length ≤ base) (r : AsideM (mcfg I S b B) I.ps.length w w₁) : w₁.ownsRow base 3 1 v n l := by
  refine ⟨h.1, ?_⟩
  rcases h.2 with e | ⟨g, cap, cur, e, hg, hh, x⟩
  · exact .inl e
  · exact .inr ⟨g, cap, cur, e, hg, (r.block g (by show g ≠ I.N; omega) fun p hp => by have hp : p < I.ps.length := hp; show g ≠ I.N + 3 + p; omega).trans hh, x⟩
theorem TF.rely (h : TF I out xs w) (r : AsideM (mcfg I S b B) I.ps.length w w₁) : TF I out xs w₁ :=
  ⟨h.km.rely r, h.arr.rely r, own_rely h.own (Nat.le_refl _) r, by rw [r.size]; exact h.size, by rw [r.size]; exact h.most⟩
theorem tf_first (h : A0 I I.ps.length w) : TF I (.slice none 0 0) [] w := ⟨h.km, h.arr, World.ownsRow_nil _ _ _ _, by rw [h.size]; omega, by rw [h.size]; simp⟩
theorem KM.grown {w' : World} {row : Option Nat} (k : KM I w) (hg : w.grownBy w' row) (hr : ∀ k, row = some k → I.N < k) : KM I w' := by
  refine ⟨k.low.grown hg k.low.size (fun j hj => by have : I.N < j := hr j hj; have : I.W.heap.size = I.N := rfl; omega), ?_⟩
  obtain ⟨st, sm, h⟩ := k.live
  exact ⟨st, sm, h.of_block (hg.block _ (Array.getElem?_eq_some_iff.1 h).1 fun e => by have := hr _ e.symm; omega)⟩
theorem SendArr.grown {w' : World} {row : Option Nat} {i : Nat} (h : SendArr I i w) (hg : w.grownBy w' row) (hr : ∀ k, row = some k → I.N + 2 < k) : SendArr I i w' := by
  obtain ⟨arr, h1, h2⟩ := h
  exact ⟨arr, (hg.block _ (Array.getElem?_eq_some_iff.1 h1).1 fun e => by have := hr _ e.symm; omega).trans h1, h2⟩
theorem TF.shut (h : TF I out xs w) (s r : Nat) : TF I out xs (w.setChan (I.N + 1) 0 #[] true s r false) := by
  have hne : ∀ k, k ≠ I.N + 1 → (w.setChan (I.N + 1) 0 #[] true s r false).heap[k]? = w.heap[k]? := fun k hk => heap_setChan_ne' hk
  have hsz : (w.setChan (I.N + 1) 0 #[] true s r false).heap.size = w.heap.size := by simp [World.setChan]
  refine ⟨⟨⟨h.km.low.os, h.km.low.tape, h.km.low.output, by rw [hsz]; exact h.km.low.size, fun i hi => (hne i (by have : i < I.N := hi; omega)).trans (h.km.low.block i hi)⟩, ?_⟩, ?_, ⟨h.own.1, ?_⟩, by rw [hsz]; exact h.size, by rw [hsz]; exact h.most⟩
  · obtain ⟨st, sm, hw⟩ := h.km.live
    exact ⟨st, sm, hw.of_block (hne _ (by omega))⟩
  · obtain ⟨arr, h1, h2⟩ := h.arr
    exact ⟨arr, (hne _ (by omega)).trans h1, h2⟩
  · rcases h.own.2 with e | ⟨g, cap, cur, e, hg, hh, x⟩
    · exact .inl e
    · exact .inr ⟨g, cap, cur, e, hg, (hne g (by omega)).trans hh, x⟩
theorem evM_app (h : I.Ok S) {src : Nat} {own : Option Nat} {e : Event} {y : Addr} (he : EvA src own e) (hs : I.N < src) (hB : src < B) (ho : ∀ k, own = some k → I.N < k ∧ k < B) :
    EvM (fun l => S l ∨ ShN I.N l) (StillM I S) B e ∧ e.loc ≠ .mark (.release y) := by
  rcases he with ⟨ad, hl, hc⟩ | ⟨m, rfl, hm⟩
  · have hbl : I.N < ad.block ∧ ad.block < B := by
      rcases hc with ⟨_, e⟩ | e
      · omega
      · exact ho _ e.symm
    obtain ⟨loc, wr, sy⟩ := e
    simp only at hl
    subst hl
    refine ⟨⟨fun x hx => ?_, by simp, by simp, ?_⟩, by simp⟩
    · simp only [ofEvent_cell0, MemAct.touch?, Option.some.injEq] at hx
      subst hx
      exact ⟨fun hs' => absurd hs' (own_place h hbl.1), fun hst => absurd hst (own_still hbl.1)⟩
    · rw [ofEvent_cell0]; exact hbl.2
  · refine ⟨⟨fun x hx => ?_, fun e => ?_, fun e => ?_, ?_⟩, fun e => ?_⟩
    · cases m <;> simp [MemAct.ofEvent, MemAct.touch?] at hx <;> simp [Neutral] at hm
    · cases e; simp [Neutral] at hm
    · cases e; simp [Neutral] at hm
    · cases m <;> simp [MemAct.ofEvent, MemAct.low] <;> simp [Neutral] at hm
    · cases e; simp [Neutral] at hm
end

section
variable (I : MIn) (cs : List Frame)
noncomputable def gTurn (i : Nat) (out : Value) (j2 j3 j4 j8 j9 j11 j12 j13 j14 j15 j16 j17 j18 j19 j20 j21 j22 j23 j24 j25 j26 j27 j28 j29 j30 j31 j32 j33 j34 j35 j36 j37 j38 j39 j40 j44 j45 j46 j47 j48 j49 j50 j51 j52 j53 j54 j55 j56 j57 j58 j59 j60 j61 j62 j63 j64 j65 j66 j67 j68 j69 j70 j71 : Value) : Goroutine :=
  G ((base 14).at ⟨#[.slice I.a0 I.ps.length I.cap, .slice I.b0 I.ts.length I.capb, j2, j3, j4, .pointer (some ⟨I.N, 0, none⟩), .chan (some (I.N + 1)), .slice (some ⟨I.N + 2, 0, none⟩) I.ps.length I.ps.length, j8, j9, out, j11, j12, j13, j14, j15, j16, j17, j18, j19, j20, j21, j22, j23, j24, j25, j26, j27, j28, j29, j30, j31, j32, j33, j34, j35, j36, j37, j38, j39, j40, .slice I.b0 I.ts.length I.capb, num I.ts.length, num i, j44, j45, j46, j47, j48, j49, j50, j51, j52, j53, j54, j55, j56, j57, j58, j59, j60, j61, j62, j63, j64, j65, j66, j67, j68, j69, j70, j71], []⟩ [.code Lb14, .inLoop Lb14, .inBlock 2, .code (tail14 8)]) cs

noncomputable def gRecvM (i p : Nat) (out : Value) (j2 j3 j4 j8 j9 j11 j12 j13 j14 j15 j16 j17 j18 j19 j20 j21 j22 j23 j24 j25 j26 j27 j28 j29 j30 j31 j32 j33 j34 j35 j36 j37 j38 j39 j40 j44 j45 j46 j47 j48 j49 j50 j51 j52 j53 j54 j55 j56 j57 j58 j60 j61 j62 j63 j64 j65 j66 j67 j68 j69 j70 j71 : Value) : Goroutine :=
  G ((base 14).at ⟨#[.slice I.a0 I.ps.length I.cap, .slice I.b0 I.ts.length I.capb, j2, j3, j4, .pointer (some ⟨I.N, 0, none⟩), .chan (some (I.N + 1)), .slice (some ⟨I.N + 2, 0, none⟩) I.ps.length I.ps.length, j8, j9, out, j11, j12, j13, j14, j15, j16, j17, j18, j19, j20, j21, j22, j23, j24, j25, j26, j27, j28, j29, j30, j31, j32, j33, j34, j35, j36, j37, j38, j39, j40, .slice I.b0 I.ts.length I.capb, num I.ts.length, num i, j44, j45, j46, j47, j48, j49, j50, j51, j52, j53, j54, j55, j56, j57, j58, .chan (some (I.N + 3 + p)), j60, j61, j62, j63, j64, j65, j66, j67, j68, j69, j70, j71], []⟩ [.inRegion ops14r [4, 5, 6, 7, 8, 9], .code rest14r, .inBlock 3, .code post14b, .inLoop Lb14, .inBlock 2, .code (tail14 8)]) cs

noncomputable def gGotM (i : Nat) (out r : Value) (j2 j3 j4 j8 j9 j11 j12 j13 j14 j15 j16 j17 j18 j19 j20 j21 j22 j23 j24 j25 j26 j27 j28 j29 j30 j31 j32 j33 j34 j35 j36 j37 j38 j39 j40 j44 j45 j46 j47 j48 j49 j50 j51 j52 j53 j54 j55 j56 j57 j58 j59 j61 j62 j63 j64 j65 j66 j67 j68 j69 j70 j71 : Value) : Goroutine :=
  G ((base 14).at ⟨#[.slice I.a0 I.ps.length I.cap, .slice I.b0 I.ts.length I.capb, j2, j3, j4, .pointer (some ⟨I.N, 0, none⟩), .chan (some (I.N + 1)), .slice (some ⟨I.N + 2, 0, none⟩) I.ps.length I.ps.length, j8, j9, out, j11, j12, j13, j14, j15, j16, j17, j18, j19, j20, j21, j22, j23, j24, j25, j26, j27, j28, j29, j30, j31, j32, j33, j34, j35, j36, j37, j38, j39, j40, .slice I.b0 I.ts.length I.capb, num I.ts.length, num i, j44, j45, j46, j47, j48, j49, j50, j51, j52, j53, j54, j55, j56, j57, j58, j59, r, j61, j62, j63, j64, j65, j66, j67, j68, j69, j70, j71], []⟩ [.inRegion ops14r [5, 6, 7, 8, 9], .code rest14r, .inBlock 3, .code post14b, .inLoop Lb14, .inBlock 2, .code (tail14 8)]) cs

noncomputable def gCloseM (out : Value) (j2 j3 j4 j8 j9 j11 j12 j13 j14 j15 j16 j17 j18 j19 j20 j21 j22 j23 j24 j25 j26 j27 j28 j29 j30 j31 j32 j33 j34 j35 j36 j37 j38 j39 j40 j41 j42 j43 j44 j45 j46 j47 j48 j49 j50 j51 j52 j53 j54 j55 j56 j57 j58 j59 j60 j61 j62 j63 j64 j65 j66 j67 j68 j70 j71 : Value) : Goroutine :=
  G ((base 14).at ⟨#[.slice I.a0 I.ps.length I.cap, .slice I.b0 I.ts.length I.capb, j2, j3, j4, .pointer (some ⟨I.N, 0, none⟩), .chan (some (I.N + 1)), .slice (some ⟨I.N + 2, 0, none⟩) I.ps.length I.ps.length, j8, j9, out, j11, j12, j13, j14, j15, j16, j17, j18, j19, j20, j21, j22, j23, j24, j25, j26, j27, j28, j29, j30, j31, j32, j33, j34, j35, j36, j37, j38, j39, j40, j41, j42, j43, j44, j45, j46, j47, j48, j49, j50, j51, j52, j53, j54, j55, j56, j57, j58, j59, j60, j61, j62, j63, j64, j65, j66, j67, j68, .chan (some (I.N + 1)), j70, j71], []⟩ [.inRegion ops14c [1], .code (tail14 9)]) cs

noncomputable def gShutM (out : Value) (j2 j3 j4 j8 j9 j11 j12 j13 j14 j15 j16 j17 j18 j19 j20 j21 j22 j23 j24 j25 j26 j27 j28 j29 j30 j31 j32 j33 j34 j35 j36 j37 j38 j39 j40 j41 j42 j43 j44 j45 j46 j47 j48 j49 j50 j51 j52 j53 j54 j55 j56 j57 j58 j59 j60 j61 j62 j63 j64 j65 j66 j67 j68 j69 j70 j71 : Value) : Goroutine :=
  G ((base 14).at ⟨#[.slice I.a0 I.ps.length I.cap, .slice I.b0 I.ts.length I.capb, j2, j3, j4, .pointer (some ⟨I.N, 0, none⟩), .chan (some (I.N + 1)), .slice (some ⟨I.N + 2, 0, none⟩) I.ps.length I.ps.length, j8, j9, out, j11, j12, j13, j14, j15, j16, j17, j18, j19, j20, j21, j22, j23, j24, j25, j26, j27, j28, j29, j30, j31, j32, j33, j34, j35, j36, j37, j38, j39, j40, j41, j42, j43, j44, j45, j46, j47, j48, j49, j50, j51, j52, j53, j54, j55, j56, j57, j58, j59, j60, j61, j62, j63, j64, j65, j66, j67, j68, j69, j70, j71], []⟩ [.inRegion ops14c [], .code (tail14 9)]) cs

variable {S : Loc → Prop} {b B : Nat} {Stop : Goroutine → World → Prop}

theorem headA_end (n : Nat) (h : ∀ j2 j3 j4 j8 j9 j11 j12 j13 j14 j15 j16 j17 j18 j19 j20 j21 j22 j23 j24 j25 j26 j27 j28 j29 j30 j31 j32 j33 j34 j35 j36 j37 j38 j39 j40 j44 j45 j46 j47 j48 j49 j50 j51 j52 j53 j54 j55 j56 j57 j58 j59 j60 j61 j62 j63 j64 j65 j66 j67 j68 j69 j70 j71 w, TF I (.slice none 0 0) [] w → Goes Try.prog true (AsideM (mcfg I S b B) I.ps.length) (D0 (mcfg I S b B) I.ps.length) (Stop) n (gTurn I cs 0 (.slice none 0 0) j2 j3 j4 j8 j9 j11 j12 j13 j14 j15 j16 j17 j18 j19 j20 j21 j22 j23 j24 j25 j26 j27 j28 j29 j30 j31 j32 j33 j34 j35 j36 j37 j38 j39 j40 j44 j45 j46 j47 j48 j49 j50 j51 j52 j53 j54 j55 j56 j57 j58 j59 j60 j61 j62 j63 j64 j65 j66 j67 j68 j69 j70 j71) w) (j2 j3 j4 j8 j9 j10 j11 j12 j13 j14 j15 j16 j17 j18 j19 j20 j21 j25 j26 j27 j28 j29 j30 j31 j32 j33 j34 j35 j36 j37 j38 j39 j40 j41 j42 j43 j44 j45 j46 j47 j48 j49 j50 j51 j52 j53 j54 j55 j56 j57 j58 j59 j60 j61 j62 j63 j64 j65 j66 j67 j68 j69 j70 j71 : Value) (w : World) (hF : A0 I I.ps.length w) : Goes Try.prog true (AsideM (mcfg I S b B) I.ps.length) (D0 (mcfg I S b B) I.ps.length) (Stop) (n + 40) (gHeadA I cs I.ps.length j2 j3 j4 j8 j9 j10 j11 j12 j13 j14 j15 j16 j17 j18 j19 j20 j21 j25 j26 j27 j28 j29 j30 j31 j32 j33 j34 j35 j36 j37 j38 j39 j40 j41 j42 j43 j44 j45 j46 j47 j48 j49 j50 j51 j52 j53 j54 j55 j56 j57 j58 j59 j60 j61 j62 j63 j64 j65 j66 j67 j68 j69 j70 j71) w := by
  have hFr : ∀ w w₁, AsideM (mcfg I S b B) I.ps.length w w₁ → A0 I I.ps.length w → A0 I I.ps.length w₁ := fun w w₁ r h => h.rely r
  have H := Lib.hid @h
  clear h
  simp only [gHeadA, gTurn, rest14r, post14b, in14b, ops14r, ops14c, ops14w, La14, Lb14, tail14, body14, Try.f14, Option.getD_some, num] at H ⊢
  repeat (first
    | (refine Goes.step rfl (fun w₁ h₁ => ?_); replace hF := hFr _ _ h₁ hF; clear h₁; rw [stepG_region_end]; simp only [goes_go]; refine ⟨d0_none _, ?_⟩)
    | (refine Goes.step rfl (fun w₁ h₁ => ?_); replace hF := hFr _ _ h₁ hF; clear h₁; rw [stepG_skip]; simp only [goes_go]; refine ⟨d0_none _, ?_⟩)
    | (refine Goes.step rfl (fun w₁ h₁ => ?_); replace hF := hFr _ _ h₁ hF; clear h₁; rw [stepG_seq]; simp only [goes_go]; refine ⟨d0_none _, ?_⟩)
    | (refine Goes.step rfl (fun w₁ h₁ => ?_); replace hF := hFr _ _ h₁ hF; clear h₁; rw [stepG_block]; simp only [goes_go]; refine ⟨d0_none _, ?_⟩)
    | (refine Goes.step rfl (fun w₁ h₁ => ?_); replace hF := hFr _ _ h₁ hF; clear h₁; rw [stepG_inBlock]; simp only [goes_go]; refine ⟨d0_none _, ?_⟩)
    | (refine Goes.step rfl (fun w₁ h₁ => ?_); replace hF := hFr _ _ h₁ hF; clear h₁; rw [stepG_region]; simp only [goes_go, List.size_toArray, List.length_cons, List.length_nil, Nat.reduceAdd, Nat.zero_add, List.range, List.range.loop]; refine ⟨d0_none _, ?_⟩)
    | (refine Goes.step rfl (fun w₁ h₁ => ?_); replace hF := hFr _ _ h₁ hF; clear h₁; rw [stepG_cond (t := true) rfl]; simp only [goes_go, if_true, if_false, Bool.false_eq_true, ↓reduceIte]; refine ⟨d0_none _, ?_⟩)
    | (refine Goes.step rfl (fun w₁ h₁ => ?_); replace hF := hFr _ _ h₁ hF; clear h₁; rw [stepG_cond (t := false) rfl]; simp only [goes_go, if_true, if_false, Bool.false_eq_true, ↓reduceIte]; refine ⟨d0_none _, ?_⟩)
    | (refine Goes.step rfl (fun w₁ h₁ => ?_); replace hF := hFr _ _ h₁ hF; clear h₁; rw [stepG_unwanted rfl rfl]; simp only [goes_go]; refine ⟨d0_none _, ?_⟩; walk_nrm)
    | (refine Goes.step rfl (fun w₁ h₁ => ?_); replace hF := hFr _ _ h₁ hF; clear h₁; rw [stepG_defer rfl rfl (by decide) rfl]; simp only [goes_go]; refine ⟨d0_none _, ?_⟩; walk_nrm)
    | (refine Goes.step rfl (fun w₁ h₁ => ?_); replace hF := hFr _ _ h₁ hF; clear h₁; rw [stepG_entry_pure (.bool false) rfl rfl (by decide) rfl wgLib.f_inBubble (x_inBubble_n link) (x_inBubble_b link) (x_inBubble_x link) (x_inBubble_f link)]; simp only [goes_go]; refine ⟨d0_none _, ?_⟩; walk_nrm)
    | (refine Goes.step rfl (fun w₁ h₁ => ?_); replace hF := hFr _ _ h₁ hF; clear h₁; refine goes_oper_k rfl rfl (by decide) (fun K hK => ?_); go_simp; try w_num
       refine hK _ _ ⟨d0_evs _ ?_, ?_⟩
       · intro e he; have hm := mem_listed he; simp [go_sem, *] at hm
       clear hK K; try walk_nrm))
  refine Goes.step rfl (fun w₁ h₁ => ?_); replace hF := hFr _ _ h₁ hF; clear h₁; refine goes_exit rfl ?_; refine ⟨d0_none _, ?_⟩
  repeat (first
    | (refine Goes.step rfl (fun w₁ h₁ => ?_); replace hF := hFr _ _ h₁ hF; clear h₁; rw [stepG_region_end]; simp only [goes_go]; refine ⟨d0_none _, ?_⟩)
    | (refine Goes.step rfl (fun w₁ h₁ => ?_); replace hF := hFr _ _ h₁ hF; clear h₁; rw [stepG_skip]; simp only [goes_go]; refine ⟨d0_none _, ?_⟩)
    | (refine Goes.step rfl (fun w₁ h₁ => ?_); replace hF := hFr _ _ h₁ hF; clear h₁; rw [stepG_seq]; simp only [goes_go]; refine ⟨d0_none _, ?_⟩)
    | (refine Goes.step rfl (fun w₁ h₁ => ?_); replace hF := hFr _ _ h₁ hF; clear h₁; rw [stepG_block]; simp only [goes_go]; refine ⟨d0_none _, ?_⟩)
    | (refine Goes.step rfl (fun w₁ h₁ => ?_); replace hF := hFr _ _ h₁ hF; clear h₁; rw [stepG_inBlock]; simp only [goes_go]; refine ⟨d0_none _, ?_⟩)
    | (refine Goes.step rfl (fun w₁ h₁ => ?_); replace hF := hFr _ _ h₁ hF; clear h₁; rw [stepG_region]; simp only [goes_go, List.size_toArray, List.length_cons, List.length_nil, Nat.reduceAdd, Nat.zero_add, List.range, List.range.loop]; refine ⟨d0_none _, ?_⟩)
    | (refine Goes.step rfl (fun w₁ h₁ => ?_); replace hF := hFr _ _ h₁ hF; clear h₁; rw [stepG_cond (t := true) rfl]; simp only [goes_go, if_true, if_false, Bool.false_eq_true, ↓reduceIte]; refine ⟨d0_none _, ?_⟩)
    | (refine Goes.step rfl (fun w₁ h₁ => ?_); replace hF := hFr _ _ h₁ hF; clear h₁; rw [stepG_cond (t := false) rfl]; simp only [goes_go, if_true, if_false, Bool.false_eq_true, ↓reduceIte]; refine ⟨d0_none _, ?_⟩)
    | (refine Goes.step rfl (fun w₁ h₁ => ?_); replace hF := hFr _ _ h₁ hF; clear h₁; rw [stepG_unwanted rfl rfl]; simp only [goes_go]; refine ⟨d0_none _, ?_⟩; walk_nrm)
    | (refine Goes.step rfl (fun w₁ h₁ => ?_); replace hF := hFr _ _ h₁ hF; clear h₁; rw [stepG_defer rfl rfl (by decide) rfl]; simp only [goes_go]; refine ⟨d0_none _, ?_⟩; walk_nrm)
    | (refine Goes.step rfl (fun w₁ h₁ => ?_); replace hF := hFr _ _ h₁ hF; clear h₁; rw [stepG_entry_pure (.bool false) rfl rfl (by decide) rfl wgLib.f_inBubble (x_inBubble_n link) (x_inBubble_b link) (x_inBubble_x link) (x_inBubble_f link)]; simp only [goes_go]; refine ⟨d0_none _, ?_⟩; walk_nrm)
    | (refine Goes.step rfl (fun w₁ h₁ => ?_); replace hF := hFr _ _ h₁ hF; clear h₁; refine goes_oper_k rfl rfl (by decide) (fun K hK => ?_); go_simp; try w_num
       refine hK _ _ ⟨d0_evs _ ?_, ?_⟩
       · intro e he; have hm := mem_listed he; simp [go_sem, *] at hm
       clear hK K; try walk_nrm))
  refine Goes.step rfl (fun w₁ h₁ => ?_); replace hF := hFr _ _ h₁ hF; clear h₁; rw [stepG_loop]; simp only [goes_go]; refine ⟨d0_none _, ?_⟩
  exact (H.out _ _ _ _ _ _ _ _ _ _ _ _ _ _ _ _ _ _ _ _ _ _ _ _ _ _ _ _ _ _ _ _ _ _ _ _ _ _ _ _ _ _ _ _ _ _ _ _ _ _ _ _ _ _ _ _ _ _ _ _ _ _ _ _ (tf_first hF)).mono (by omega)

/-- A turn of nobody's. -/
theorem turn_neg (hI : I.Ok S) (hB : I.N + 4 + I.ps.length ≤ B) (n i : Nat) (t : Int) (ht : I.ts[i]? = some t) {out : Value} {xs : List Int} (h : ∀ j2 j3 j4 j8 j9 j11 j12 j13 j14 j15 j16 j17 j18 j19 j20 j21 j22 j23 j24 j25 j26 j27 j28 j29 j30 j31 j32 j33 j34 j35 j36 j37 j38 j39 j40 j44 j45 j46 j47 j48 j49 j50 j51 j52 j53 j54 j55 j56 j57 j58 j59 j60 j61 j62 j63 j64 j65 j66 j67 j68 j69 j70 j71 w, TF I out xs w → Goes Try.prog true (AsideM (mcfg I S b B) I.ps.length) (D0 (mcfg I S b B) I.ps.length) (Stop) n (gTurn I cs (i + 1) out j2 j3 j4 j8 j9 j11 j12 j13 j14 j15 j16 j17 j18 j19 j20 j21 j22 j23 j24 j25 j26 j27 j28 j29 j30 j31 j32 j33 j34 j35 j36 j37 j38 j39 j40 j44 j45 j46 j47 j48 j49 j50 j51 j52 j53 j54 j55 j56 j57 j58 j59 j60 j61 j62 j63 j64 j65 j66 j67 j68 j69 j70 j71) w) (hneg : t < 0) (j2 j3 j4 j8 j9 j11 j12 j13 j14 j15 j16 j17 j18 j19 j20 j21 j22 j23 j24 j25 j26 j27 j28 j29 j30 j31 j32 j33 j34 j35 j36 j37 j38 j39 j40 j44 j45 j46 j47 j48 j49 j50 j51 j52 j53 j54 j55 j56 j57 j58 j59 j60 j61 j62 j63 j64 j65 j66 j67 j68 j69 j70 j71 : Value) (w : World) (hF : TF I out xs w) : Goes Try.prog true (AsideM (mcfg I S b B) I.ps.length) (D0 (mcfg I S b B) I.ps.length) (Stop) (n + 60) (gTurn I cs i out j2 j3 j4 j8 j9 j11 j12 j13 j14 j15 j16 j17 j18 j19 j20 j21 j22 j23 j24 j25 j26 j27 j28 j29 j30 j31 j32 j33 j34 j35 j36 j37 j38 j39 j40 j44 j45 j46 j47 j48 j49 j50 j51 j52 j53 j54 j55 j56 j57 j58 j59 j60 j61 j62 j63 j64 j65 j66 j67 j68 j69 j70 j71) w := by
  obtain ⟨ad, ha, hel⟩ := hI.turn i t ht
  have hS := Lib.hid (hI.turnS ad ha)
  have hlt : (ad.add i).block < I.N := World.block_lt_of_cell? _ _ hel
  have hi : i < I.ts.length := (List.getElem?_eq_some_iff.1 ht).1
  have HT := Lib.hid ht
  have HA := Lib.hid ha
  clear ht
  have hFr : ∀ w w₁, AsideM (mcfg I S b B) I.ps.length w w₁ → TF I out xs w → TF I out xs w₁ := fun w w₁ r h => h.rely r
  have e : IntKind.i64.wrap ((i : Int) + 1) = ((i + 1 : Nat) : Int) := by have := hI.tlen; rw [IntKind.wrap_i64]; omega
  have H := Lib.hid @h
  clear h
  simp only [gTurn, rest14r, post14b, in14b, ops14r, ops14c, ops14w, La14, Lb14, tail14, body14, Try.f14, Option.getD_some, num, ha] at H ⊢
  repeat (first
    | (refine Goes.step rfl (fun w₁ h₁ => ?_); replace hF := hFr _ _ h₁ hF; clear h₁; rw [stepG_region_end]; simp only [goes_go]; refine ⟨d0_none _, ?_⟩)
    | (refine Goes.step rfl (fun w₁ h₁ => ?_); replace hF := hFr _ _ h₁ hF; clear h₁; rw [stepG_skip]; simp only [goes_go]; refine ⟨d0_none _, ?_⟩)
    | (refine Goes.step rfl (fun w₁ h₁ => ?_); replace hF := hFr _ _ h₁ hF; clear h₁; rw [stepG_seq]; simp only [goes_go]; refine ⟨d0_none _, ?_⟩)
    | (refine Goes.step rfl (fun w₁ h₁ => ?_); replace hF := hFr _ _ h₁ hF; clear h₁; rw [stepG_block]; simp only [goes_go]; refine ⟨d0_none _, ?_⟩)
    | (refine Goes.step rfl (fun w₁ h₁ => ?_); replace hF := hFr _ _ h₁ hF; clear h₁; rw [stepG_inBlock]; simp only [goes_go]; refine ⟨d0_none _, ?_⟩)
    | (refine Goes.step rfl (fun w₁ h₁ => ?_); replace hF := hFr _ _ h₁ hF; clear h₁; rw [stepG_region]; simp only [goes_go, List.size_toArray, List.length_cons, List.length_nil, Nat.reduceAdd, Nat.zero_add, List.range, List.range.loop]; refine ⟨d0_none _, ?_⟩)
    | (refine Goes.step rfl (fun w₁ h₁ => ?_); replace hF := hFr _ _ h₁ hF; clear h₁; rw [stepG_cond (t := true) rfl]; simp only [goes_go, if_true, if_false, Bool.false_eq_true, ↓reduceIte]; refine ⟨d0_none _, ?_⟩)
    | (refine Goes.step rfl (fun w₁ h₁ => ?_); replace hF := hFr _ _ h₁ hF; clear h₁; rw [stepG_cond (t := false) rfl]; simp only [goes_go, if_true, if_false, Bool.false_eq_true, ↓reduceIte]; refine ⟨d0_none _, ?_⟩)
    | (refine Goes.step rfl (fun w₁ h₁ => ?_); replace hF := hFr _ _ h₁ hF; clear h₁; rw [stepG_unwanted rfl rfl]; simp only [goes_go]; refine ⟨d0_none _, ?_⟩; walk_nrm)
    | (refine Goes.step rfl (fun w₁ h₁ => ?_); replace hF := hFr _ _ h₁ hF; clear h₁; rw [stepG_defer rfl rfl (by decide) rfl]; simp only [goes_go]; refine ⟨d0_none _, ?_⟩; walk_nrm)
    | (refine Goes.step rfl (fun w₁ h₁ => ?_); replace hF := hFr _ _ h₁ hF; clear h₁; rw [stepG_entry_pure (.bool false) rfl rfl (by decide) rfl wgLib.f_inBubble (x_inBubble_n link) (x_inBubble_b link) (x_inBubble_x link) (x_inBubble_f link)]; simp only [goes_go]; refine ⟨d0_none _, ?_⟩; walk_nrm)
    | (refine Goes.step rfl (fun w₁ h₁ => ?_); replace hF := hFr _ _ h₁ hF; clear h₁; refine goes_oper_k rfl rfl (by decide) (fun K hK => ?_); go_simp; try w_num
       refine hK _ _ ⟨d0_evs _ ?_, ?_⟩
       · intro e he; have hm := mem_listed he; simp [go_sem, *] at hm
       clear hK K; try walk_nrm))
  refine Goes.step rfl (fun w₁ h₁ => ?_); replace hF := hFr _ _ h₁ hF; clear h₁
  have hc : w₁.cell? (ad.add i) = some (.int .i64 t) := by rw [hF.km.low.cell hlt]; exact hel
  refine goes_oper_k rfl rfl (by decide) (fun K hK => ?_); go_simp
  refine hK _ _ ⟨d0_reads _ (fun e he => by (have hm := mem_listed he; clear hK he; simp [go_sem, *] at hm; subst hm; exact evM_look _ (old_place hI hlt (hS.out _ (addBlk24 ad i))) (by show _ < B; omega))), ?_⟩; clear hK K hc; try walk_nrm
  repeat (first
    | (refine Goes.step rfl (fun w₁ h₁ => ?_); replace hF := hFr _ _ h₁ hF; clear h₁; rw [stepG_region_end]; simp only [goes_go]; refine ⟨d0_none _, ?_⟩)
    | (refine Goes.step rfl (fun w₁ h₁ => ?_); replace hF := hFr _ _ h₁ hF; clear h₁; rw [stepG_skip]; simp only [goes_go]; refine ⟨d0_none _, ?_⟩)
    | (refine Goes.step rfl (fun w₁ h₁ => ?_); replace hF := hFr _ _ h₁ hF; clear h₁; rw [stepG_seq]; simp only [goes_go]; refine ⟨d0_none _, ?_⟩)
    | (refine Goes.step rfl (fun w₁ h₁ => ?_); replace hF := hFr _ _ h₁ hF; clear h₁; rw [stepG_block]; simp only [goes_go]; refine ⟨d0_none _, ?_⟩)
    | (refine Goes.step rfl (fun w₁ h₁ => ?_); replace hF := hFr _ _ h₁ hF; clear h₁; rw [stepG_inBlock]; simp only [goes_go]; refine ⟨d0_none _, ?_⟩)
    | (refine Goes.step rfl (fun w₁ h₁ => ?_); replace hF := hFr _ _ h₁ hF; clear h₁; rw [stepG_region]; simp only [goes_go, List.size_toArray, List.length_cons, List.length_nil, Nat.reduceAdd, Nat.zero_add, List.range, List.range.loop]; refine ⟨d0_none _, ?_⟩)
    | (refine Goes.step rfl (fun w₁ h₁ => ?_); replace hF := hFr _ _ h₁ hF; clear h₁; rw [stepG_cond (t := true) rfl]; simp only [goes_go, if_true, if_false, Bool.false_eq_true, ↓reduceIte]; refine ⟨d0_none _, ?_⟩)
    | (refine Goes.step rfl (fun w₁ h₁ => ?_); replace hF := hFr _ _ h₁ hF; clear h₁; rw [stepG_cond (t := false) rfl]; simp only [goes_go, if_true, if_false, Bool.false_eq_true, ↓reduceIte]; refine ⟨d0_none _, ?_⟩)
    | (refine Goes.step rfl (fun w₁ h₁ => ?_); replace hF := hFr _ _ h₁ hF; clear h₁; rw [stepG_unwanted rfl rfl]; simp only [goes_go]; refine ⟨d0_none _, ?_⟩; walk_nrm)
    | (refine Goes.step rfl (fun w₁ h₁ => ?_); replace hF := hFr _ _ h₁ hF; clear h₁; rw [stepG_defer rfl rfl (by decide) rfl]; simp only [goes_go]; refine ⟨d0_none _, ?_⟩; walk_nrm)
    | (refine Goes.step rfl (fun w₁ h₁ => ?_); replace hF := hFr _ _ h₁ hF; clear h₁; rw [stepG_entry_pure (.bool false) rfl rfl (by decide) rfl wgLib.f_inBubble (x_inBubble_n link) (x_inBubble_b link) (x_inBubble_x link) (x_inBubble_f link)]; simp only [goes_go]; refine ⟨d0_none _, ?_⟩; walk_nrm)
    | (refine Goes.step rfl (fun w₁ h₁ => ?_); replace hF := hFr _ _ h₁ hF; clear h₁; refine goes_oper_k rfl rfl (by decide) (fun K hK => ?_); go_simp; try w_num
       refine hK _ _ ⟨d0_evs _ ?_, ?_⟩
       · intro e he; have hm := mem_listed he; simp [go_sem, *] at hm
       clear hK K; try walk_nrm))
  refine Goes.step rfl (fun w₁ h₁ => ?_); replace hF := hFr _ _ h₁ hF; clear h₁; refine goes_exit rfl ?_; refine ⟨d0_none _, ?_⟩
  repeat (first
    | (refine Goes.step rfl (fun w₁ h₁ => ?_); replace hF := hFr _ _ h₁ hF; clear h₁; rw [stepG_region_end]; simp only [goes_go]; refine ⟨d0_none _, ?_⟩)
    | (refine Goes.step rfl (fun w₁ h₁ => ?_); replace hF := hFr _ _ h₁ hF; clear h₁; rw [stepG_skip]; simp only [goes_go]; refine ⟨d0_none _, ?_⟩)
    | (refine Goes.step rfl (fun w₁ h₁ => ?_); replace hF := hFr _ _ h₁ hF; clear h₁; rw [stepG_seq]; simp only [goes_go]; refine ⟨d0_none _, ?_⟩)
    | (refine Goes.step rfl (fun w₁ h₁ => ?_); replace hF := hFr _ _ h₁ hF; clear h₁; rw [stepG_block]; simp only [goes_go]; refine ⟨d0_none _, ?_⟩)
    | (refine Goes.step rfl (fun w₁ h₁ => ?_); replace hF := hFr _ _ h₁ hF; clear h₁; rw [stepG_inBlock]; simp only [goes_go]; refine ⟨d0_none _, ?_⟩)
    | (refine Goes.step rfl (fun w₁ h₁ => ?_); replace hF := hFr _ _ h₁ hF; clear h₁; rw [stepG_region]; simp only [goes_go, List.size_toArray, List.length_cons, List.length_nil, Nat.reduceAdd, Nat.zero_add, List.range, List.range.loop]; refine ⟨d0_none _, ?_⟩)
    | (refine Goes.step rfl (fun w₁ h₁ => ?_); replace hF := hFr _ _ h₁ hF; clear h₁; rw [stepG_cond (t := true) rfl]; simp only [goes_go, if_true, if_false, Bool.false_eq_true, ↓reduceIte]; refine ⟨d0_none _, ?_⟩)
    | (refine Goes.step rfl (fun w₁ h₁ => ?_); replace hF := hFr _ _ h₁ hF; clear h₁; rw [stepG_cond (t := false) rfl]; simp only [goes_go, if_true, if_false, Bool.false_eq_true, ↓reduceIte]; refine ⟨d0_none _, ?_⟩)
    | (refine Goes.step rfl (fun w₁ h₁ => ?_); replace hF := hFr _ _ h₁ hF; clear h₁; rw [stepG_unwanted rfl rfl]; simp only [goes_go]; refine ⟨d0_none _, ?_⟩; walk_nrm)
    | (refine Goes.step rfl (fun w₁ h₁ => ?_); replace hF := hFr _ _ h₁ hF; clear h₁; rw [stepG_defer rfl rfl (by decide) rfl]; simp only [goes_go]; refine ⟨d0_none _, ?_⟩; walk_nrm)
    | (refine Goes.step rfl (fun w₁ h₁ => ?_); replace hF := hFr _ _ h₁ hF; clear h₁; rw [stepG_entry_pure (.bool false) rfl rfl (by decide) rfl wgLib.f_inBubble (x_inBubble_n link) (x_inBubble_b link) (x_inBubble_x link) (x_inBubble_f link)]; simp only [goes_go]; refine ⟨d0_none _, ?_⟩; walk_nrm)
    | (refine Goes.step rfl (fun w₁ h₁ => ?_); replace hF := hFr _ _ h₁ hF; clear h₁; refine goes_oper_k rfl rfl (by decide) (fun K hK => ?_); go_simp; try w_num
       refine hK _ _ ⟨d0_evs _ ?_, ?_⟩
       · intro e he; have hm := mem_listed he; simp [go_sem, *] at hm
       clear hK K; try walk_nrm))
  refine Goes.step rfl (fun w₁ h₁ => ?_); replace hF := hFr _ _ h₁ hF; clear h₁; rw [stepG_inLoop]; simp only [goes_go]; refine ⟨d0_none _, ?_⟩
  exact (H.out _ _ _ _ _ _ _ _ _ _ _ _ _ _ _ _ _ _ _ _ _ _ _ _ _ _ _ _ _ _ _ _ _ _ _ _ _ _ _ _ _ _ _ _ _ _ _ _ _ _ _ _ _ _ _ _ _ _ _ _ _ _ _ _ hF).mono (by omega)
theorem turn_big (hI : I.Ok S) (hB : I.N + 4 + I.ps.length ≤ B) (n i : Nat) (t : Int) (ht : I.ts[i]? = some t) {out : Value} {xs : List Int} (h : ∀ j2 j3 j4 j8 j9 j11 j12 j13 j14 j15 j16 j17 j18 j19 j20 j21 j22 j23 j24 j25 j26 j27 j28 j29 j30 j31 j32 j33 j34 j35 j36 j37 j38 j39 j40 j44 j45 j46 j47 j48 j49 j50 j51 j52 j53 j54 j55 j56 j57 j58 j59 j60 j61 j62 j63 j64 j65 j66 j67 j68 j69 j70 j71 w, TF I out xs w → Goes Try.prog true (AsideM (mcfg I S b B) I.ps.length) (D0 (mcfg I S b B) I.ps.length) (Stop) n (gTurn I cs (i + 1) out j2 j3 j4 j8 j9 j11 j12 j13 j14 j15 j16 j17 j18 j19 j20 j21 j22 j23 j24 j25 j26 j27 j28 j29 j30 j31 j32 j33 j34 j35 j36 j37 j38 j39 j40 j44 j45 j46 j47 j48 j49 j50 j51 j52 j53 j54 j55 j56 j57 j58 j59 j60 j61 j62 j63 j64 j65 j66 j67 j68 j69 j70 j71) w) (hneg : ¬ t < 0) (hbig : (I.ps.length : Int) ≤ t) (j2 j3 j4 j8 j9 j11 j12 j13 j14 j15 j16 j17 j18 j19 j20 j21 j22 j23 j24 j25 j26 j27 j28 j29 j30 j31 j32 j33 j34 j35 j36 j37 j38 j39 j40 j44 j45 j46 j47 j48 j49 j50 j51 j52 j53 j54 j55 j56 j57 j58 j59 j60 j61 j62 j63 j64 j65 j66 j67 j68 j69 j70 j71 : Value) (w : World) (hF : TF I out xs w) : Goes Try.prog true (AsideM (mcfg I S b B) I.ps.length) (D0 (mcfg I S b B) I.ps.length) (Stop) (n + 60) (gTurn I cs i out j2 j3 j4 j8 j9 j11 j12 j13 j14 j15 j16 j17 j18 j19 j20 j21 j22 j23 j24 j25 j26 j27 j28 j29 j30 j31 j32 j33 j34 j35 j36 j37 j38 j39 j40 j44 j45 j46 j47 j48 j49 j50 j51 j52 j53 j54 j55 j56 j57 j58 j59 j60 j61 j62 j63 j64 j65 j66 j67 j68 j69 j70 j71) w := by
  obtain ⟨ad, ha, hel⟩ := hI.turn i t ht
  have hS := Lib.hid (hI.turnS ad ha)
  have hlt : (ad.add i).block < I.N := World.block_lt_of_cell? _ _ hel
  have hi : i < I.ts.length := (List.getElem?_eq_some_iff.1 ht).1
  have HT := Lib.hid ht
  have HA := Lib.hid ha
  clear ht
  have hFr : ∀ w w₁, AsideM (mcfg I S b B) I.ps.length w w₁ → TF I out xs w → TF I out xs w₁ := fun w w₁ r h => h.rely r
  have e : IntKind.i64.wrap ((i : Int) + 1) = ((i + 1 : Nat) : Int) := by have := hI.tlen; rw [IntKind.wrap_i64]; omega
  have H := Lib.hid @h
  clear h
  simp only [gTurn, rest14r, post14b, in14b, ops14r, ops14c, ops14w, La14, Lb14, tail14, body14, Try.f14, Option.getD_some, num, ha] at H ⊢
  repeat (first
    | (refine Goes.step rfl (fun w₁ h₁ => ?_); replace hF := hFr _ _ h₁ hF; clear h₁; rw [stepG_region_end]; simp only [goes_go]; refine ⟨d0_none _, ?_⟩)
    | (refine Goes.step rfl (fun w₁ h₁ => ?_); replace hF := hFr _ _ h₁ hF; clear h₁; rw [stepG_skip]; simp only [goes_go]; refine ⟨d0_none _, ?_⟩)
    | (refine Goes.step rfl (fun w₁ h₁ => ?_); replace hF := hFr _ _ h₁ hF; clear h₁; rw [stepG_seq]; simp only [goes_go]; refine ⟨d0_none _, ?_⟩)
    | (refine Goes.step rfl (fun w₁ h₁ => ?_); replace hF := hFr _ _ h₁ hF; clear h₁; rw [stepG_block]; simp only [goes_go]; refine ⟨d0_none _, ?_⟩)
    | (refine Goes.step rfl (fun w₁ h₁ => ?_); replace hF := hFr _ _ h₁ hF; clear h₁; rw [stepG_inBlock]; simp only [goes_go]; refine ⟨d0_none _, ?_⟩)
    | (refine Goes.step rfl (fun w₁ h₁ => ?_); replace hF := hFr _ _ h₁ hF; clear h₁; rw [stepG_region]; simp only [goes_go, List.size_toArray, List.length_cons, List.length_nil, Nat.reduceAdd, Nat.zero_add, List.range, List.range.loop]; refine ⟨d0_none _, ?_⟩)
    | (refine Goes.step rfl (fun w₁ h₁ => ?_); replace hF := hFr _ _ h₁ hF; clear h₁; rw [stepG_cond (t := true) rfl]; simp only [goes_go, if_true, if_false, Bool.false_eq_true, ↓reduceIte]; refine ⟨d0_none _, ?_⟩)
    | (refine Goes.step rfl (fun w₁ h₁ => ?_); replace hF := hFr _ _ h₁ hF; clear h₁; rw [stepG_cond (t := false) rfl]; simp only [goes_go, if_true, if_false, Bool.false_eq_true, ↓reduceIte]; refine ⟨d0_none _, ?_⟩)
    | (refine Goes.step rfl (fun w₁ h₁ => ?_); replace hF := hFr _ _ h₁ hF; clear h₁; rw [stepG_unwanted rfl rfl]; simp only [goes_go]; refine ⟨d0_none _, ?_⟩; walk_nrm)
    | (refine Goes.step rfl (fun w₁ h₁ => ?_); replace hF := hFr _ _ h₁ hF; clear h₁; rw [stepG_defer rfl rfl (by decide) rfl]; simp only [goes_go]; refine ⟨d0_none _, ?_⟩; walk_nrm)
    | (refine Goes.step rfl (fun w₁ h₁ => ?_); replace hF := hFr _ _ h₁ hF; clear h₁; rw [stepG_entry_pure (.bool false) rfl rfl (by decide) rfl wgLib.f_inBubble (x_inBubble_n link) (x_inBubble_b link) (x_inBubble_x link) (x_inBubble_f link)]; simp only [goes_go]; refine ⟨d0_none _, ?_⟩; walk_nrm)
    | (refine Goes.step rfl (fun w₁ h₁ => ?_); replace hF := hFr _ _ h₁ hF; clear h₁; refine goes_oper_k rfl rfl (by decide) (fun K hK => ?_); go_simp; try w_num
       refine hK _ _ ⟨d0_evs _ ?_, ?_⟩
       · intro e he; have hm := mem_listed he; simp [go_sem, *] at hm
       clear hK K; try walk_nrm))
  refine Goes.step rfl (fun w₁ h₁ => ?_); replace hF := hFr _ _ h₁ hF; clear h₁
  have hc : w₁.cell? (ad.add i) = some (.int .i64 t) := by rw [hF.km.low.cell hlt]; exact hel
  refine goes_oper_k rfl rfl (by decide) (fun K hK => ?_); go_simp
  refine hK _ _ ⟨d0_reads _ (fun e he => by (have hm := mem_listed he; clear hK he; simp [go_sem, *] at hm; subst hm; exact evM_look _ (old_place hI hlt (hS.out _ (addBlk24 ad i))) (by show _ < B; omega))), ?_⟩; clear hK K hc; try walk_nrm
  repeat (first
    | (refine Goes.step rfl (fun w₁ h₁ => ?_); replace hF := hFr _ _ h₁ hF; clear h₁; rw [stepG_region_end]; simp only [goes_go]; refine ⟨d0_none _, ?_⟩)
    | (refine Goes.step rfl (fun w₁ h₁ => ?_); replace hF := hFr _ _ h₁ hF; clear h₁; rw [stepG_skip]; simp only [goes_go]; refine ⟨d0_none _, ?_⟩)
    | (refine Goes.step rfl (fun w₁ h₁ => ?_); replace hF := hFr _ _ h₁ hF; clear h₁; rw [stepG_seq]; simp only [goes_go]; refine ⟨d0_none _, ?_⟩)
    | (refine Goes.step rfl (fun w₁ h₁ => ?_); replace hF := hFr _ _ h₁ hF; clear h₁; rw [stepG_block]; simp only [goes_go]; refine ⟨d0_none _, ?_⟩)
    | (refine Goes.step rfl (fun w₁ h₁ => ?_); replace hF := hFr _ _ h₁ hF; clear h₁; rw [stepG_inBlock]; simp only [goes_go]; refine ⟨d0_none _, ?_⟩)
    | (refine Goes.step rfl (fun w₁ h₁ => ?_); replace hF := hFr _ _ h₁ hF; clear h₁; rw [stepG_region]; simp only [goes_go, List.size_toArray, List.length_cons, List.length_nil, Nat.reduceAdd, Nat.zero_add, List.range, List.range.loop]; refine ⟨d0_none _, ?_⟩)
    | (refine Goes.step rfl (fun w₁ h₁ => ?_); replace hF := hFr _ _ h₁ hF; clear h₁; rw [stepG_cond (t := true) rfl]; simp only [goes_go, if_true, if_false, Bool.false_eq_true, ↓reduceIte]; refine ⟨d0_none _, ?_⟩)
    | (refine Goes.step rfl (fun w₁ h₁ => ?_); replace hF := hFr _ _ h₁ hF; clear h₁; rw [stepG_cond (t := false) rfl]; simp only [goes_go, if_true, if_false, Bool.false_eq_true, ↓reduceIte]; refine ⟨d0_none _, ?_⟩)
    | (refine Goes.step rfl (fun w₁ h₁ => ?_); replace hF := hFr _ _ h₁ hF; clear h₁; rw [stepG_unwanted rfl rfl]; simp only [goes_go]; refine ⟨d0_none _, ?_⟩; walk_nrm)
    | (refine Goes.step rfl (fun w₁ h₁ => ?_); replace hF := hFr _ _ h₁ hF; clear h₁; rw [stepG_defer rfl rfl (by decide) rfl]; simp only [goes_go]; refine ⟨d0_none _, ?_⟩; walk_nrm)
    | (refine Goes.step rfl (fun w₁ h₁ => ?_); replace hF := hFr _ _ h₁ hF; clear h₁; rw [stepG_entry_pure (.bool false) rfl rfl (by decide) rfl wgLib.f_inBubble (x_inBubble_n link) (x_inBubble_b link) (x_inBubble_x link) (x_inBubble_f link)]; simp only [goes_go]; refine ⟨d0_none _, ?_⟩; walk_nrm)
    | (refine Goes.step rfl (fun w₁ h₁ => ?_); replace hF := hFr _ _ h₁ hF; clear h₁; refine goes_oper_k rfl rfl (by decide) (fun K hK => ?_); go_simp; try w_num
       refine hK _ _ ⟨d0_evs _ ?_, ?_⟩
       · intro e he; have hm := mem_listed he; simp [go_sem, *] at hm
       clear hK K; try walk_nrm))
  refine Goes.step rfl (fun w₁ h₁ => ?_); replace hF := hFr _ _ h₁ hF; clear h₁; refine goes_exit rfl ?_; refine ⟨d0_none _, ?_⟩
  repeat (first
    | (refine Goes.step rfl (fun w₁ h₁ => ?_); replace hF := hFr _ _ h₁ hF; clear h₁; rw [stepG_region_end]; simp only [goes_go]; refine ⟨d0_none _, ?_⟩)
    | (refine Goes.step rfl (fun w₁ h₁ => ?_); replace hF := hFr _ _ h₁ hF; clear h₁; rw [stepG_skip]; simp only [goes_go]; refine ⟨d0_none _, ?_⟩)
    | (refine Goes.step rfl (fun w₁ h₁ => ?_); replace hF := hFr _ _ h₁ hF; clear h₁; rw [stepG_seq]; simp only [goes_go]; refine ⟨d0_none _, ?_⟩)
    | (refine Goes.step rfl (fun w₁ h₁ => ?_); replace hF := hFr _ _ h₁ hF; clear h₁; rw [stepG_block]; simp only [goes_go]; refine ⟨d0_none _, ?_⟩)
    | (refine Goes.step rfl (fun w₁ h₁ => ?_); replace hF := hFr _ _ h₁ hF; clear h₁; rw [stepG_inBlock]; simp only [goes_go]; refine ⟨d0_none _, ?_⟩)
    | (refine Goes.step rfl (fun w₁ h₁ => ?_); replace hF := hFr _ _ h₁ hF; clear h₁; rw [stepG_region]; simp only [goes_go, List.size_toArray, List.length_cons, List.length_nil, Nat.reduceAdd, Nat.zero_add, List.range, List.range.loop]; refine ⟨d0_none _, ?_⟩)
    | (refine Goes.step rfl (fun w₁ h₁ => ?_); replace hF := hFr _ _ h₁ hF; clear h₁; rw [stepG_cond (t := true) rfl]; simp only [goes_go, if_true, if_false, Bool.false_eq_true, ↓reduceIte]; refine ⟨d0_none _, ?_⟩)
    | (refine Goes.step rfl (fun w₁ h₁ => ?_); replace hF := hFr _ _ h₁ hF; clear h₁; rw [stepG_cond (t := false) rfl]; simp only [goes_go, if_true, if_false, Bool.false_eq_true, ↓reduceIte]; refine ⟨d0_none _, ?_⟩)
    | (refine Goes.step rfl (fun w₁ h₁ => ?_); replace hF := hFr _ _ h₁ hF; clear h₁; rw [stepG_unwanted rfl rfl]; simp only [goes_go]; refine ⟨d0_none _, ?_⟩; walk_nrm)
    | (refine Goes.step rfl (fun w₁ h₁ => ?_); replace hF := hFr _ _ h₁ hF; clear h₁; rw [stepG_defer rfl rfl (by decide) rfl]; simp only [goes_go]; refine ⟨d0_none _, ?_⟩; walk_nrm)
    | (refine Goes.step rfl (fun w₁ h₁ => ?_); replace hF := hFr _ _ h₁ hF; clear h₁; rw [stepG_entry_pure (.bool false) rfl rfl (by decide) rfl wgLib.f_inBubble (x_inBubble_n link) (x_inBubble_b link) (x_inBubble_x link) (x_inBubble_f link)]; simp only [goes_go]; refine ⟨d0_none _, ?_⟩; walk_nrm)
    | (refine Goes.step rfl (fun w₁ h₁ => ?_); replace hF := hFr _ _ h₁ hF; clear h₁; refine goes_oper_k rfl rfl (by decide) (fun K hK => ?_); go_simp; try w_num
       refine hK _ _ ⟨d0_evs _ ?_, ?_⟩
       · intro e he; have hm := mem_listed he; simp [go_sem, *] at hm
       clear hK K; try walk_nrm))
  refine Goes.step rfl (fun w₁ h₁ => ?_); replace hF := hFr _ _ h₁ hF; clear h₁; rw [stepG_inLoop]; simp only [goes_go]; refine ⟨d0_none _, ?_⟩
  exact (H.out _ _ _ _ _ _ _ _ _ _ _ _ _ _ _ _ _ _ _ _ _ _ _ _ _ _ _ _ _ _ _ _ _ _ _ _ _ _ _ _ _ _ _ _ _ _ _ _ _ _ _ _ _ _ _ _ _ _ _ _ _ _ _ _ hF).mono (by omega)
/-- A turn of sender p's: to the receive. -/
theorem turn_recv (hI : I.Ok S) (hB : I.N + 4 + I.ps.length ≤ B) (i p : Nat) (hp : p < I.ps.length) (ht : I.ts[i]? = some (p : Int)) {out : Value} {xs : List Int} (h : ∀ j2 j3 j4 j8 j9 j11 j12 j13 j14 j15 j16 j17 j18 j19 j20 j21 j22 j23 j24 j25 j26 j27 j28 j29 j30 j31 j32 j33 j34 j35 j36 j37 j38 j39 j40 j44 j45 j46 j47 j48 j49 j50 j51 j52 j53 j54 j55 j56 j57 j58 j60 j61 j62 j63 j64 j65 j66 j67 j68 j69 j70 j71 w, TF I out xs w → Stop (gRecvM I cs i p out j2 j3 j4 j8 j9 j11 j12 j13 j14 j15 j16 j17 j18 j19 j20 j21 j22 j23 j24 j25 j26 j27 j28 j29 j30 j31 j32 j33 j34 j35 j36 j37 j38 j39 j40 j44 j45 j46 j47 j48 j49 j50 j51 j52 j53 j54 j55 j56 j57 j58 j60 j61 j62 j63 j64 j65 j66 j67 j68 j69 j70 j71) w) (j2 j3 j4 j8 j9 j11 j12 j13 j14 j15 j16 j17 j18 j19 j20 j21 j22 j23 j24 j25 j26 j27 j28 j29 j30 j31 j32 j33 j34 j35 j36 j37 j38 j39 j40 j44 j45 j46 j47 j48 j49 j50 j51 j52 j53 j54 j55 j56 j57 j58 j59 j60 j61 j62 j63 j64 j65 j66 j67 j68 j69 j70 j71 : Value) (w : World) (hF : TF I out xs w) : Goes Try.prog true (AsideM (mcfg I S b B) I.ps.length) (D0 (mcfg I S b B) I.ps.length) (Stop) 60 (gTurn I cs i out j2 j3 j4 j8 j9 j11 j12 j13 j14 j15 j16 j17 j18 j19 j20 j21 j22 j23 j24 j25 j26 j27 j28 j29 j30 j31 j32 j33 j34 j35 j36 j37 j38 j39 j40 j44 j45 j46 j47 j48 j49 j50 j51 j52 j53 j54 j55 j56 j57 j58 j59 j60 j61 j62 j63 j64 j65 j66 j67 j68 j69 j70 j71) w := by
  generalize htp : (p : Int) = t at ht
  obtain ⟨ad, ha, hel⟩ := hI.turn i t ht
  have hS := Lib.hid (hI.turnS ad ha)
  have hlt : (ad.add i).block < I.N := World.block_lt_of_cell? _ _ hel
  have hi : i < I.ts.length := (List.getElem?_eq_some_iff.1 ht).1
  have HT := Lib.hid ht
  have HA := Lib.hid ha
  clear ht
  have hFr : ∀ w w₁, AsideM (mcfg I S b B) I.ps.length w w₁ → TF I out xs w → TF I out xs w₁ := fun w w₁ r h => h.rely r
  subst htp
  have hneg : ¬ ((p : Int) < 0) := by omega
  have hbig : ¬ ((I.ps.length : Int) ≤ (p : Int)) := by omega
  have H := Lib.hid @h
  clear h
  simp only [gTurn, gRecvM, rest14r, post14b, in14b, ops14r, ops14c, ops14w, La14, Lb14, tail14, body14, Try.f14, Option.getD_some, num, ha] at H ⊢
  repeat (first
    | (refine Goes.step rfl (fun w₁ h₁ => ?_); replace hF := hFr _ _ h₁ hF; clear h₁; rw [stepG_region_end]; simp only [goes_go]; refine ⟨d0_none _, ?_⟩)
    | (refine Goes.step rfl (fun w₁ h₁ => ?_); replace hF := hFr _ _ h₁ hF; clear h₁; rw [stepG_skip]; simp only [goes_go]; refine ⟨d0_none _, ?_⟩)
    | (refine Goes.step rfl (fun w₁ h₁ => ?_); replace hF := hFr _ _ h₁ hF; clear h₁; rw [stepG_seq]; simp only [goes_go]; refine ⟨d0_none _, ?_⟩)
    | (refine Goes.step rfl (fun w₁ h₁ => ?_); replace hF := hFr _ _ h₁ hF; clear h₁; rw [stepG_block]; simp only [goes_go]; refine ⟨d0_none _, ?_⟩)
    | (refine Goes.step rfl (fun w₁ h₁ => ?_); replace hF := hFr _ _ h₁ hF; clear h₁; rw [stepG_inBlock]; simp only [goes_go]; refine ⟨d0_none _, ?_⟩)
    | (refine Goes.step rfl (fun w₁ h₁ => ?_); replace hF := hFr _ _ h₁ hF; clear h₁; rw [stepG_region]; simp only [goes_go, List.size_toArray, List.length_cons, List.length_nil, Nat.reduceAdd, Nat.zero_add, List.range, List.range.loop]; refine ⟨d0_none _, ?_⟩)
    | (refine Goes.step rfl (fun w₁ h₁ => ?_); replace hF := hFr _ _ h₁ hF; clear h₁; rw [stepG_cond (t := true) rfl]; simp only [goes_go, if_true, if_false, Bool.false_eq_true, ↓reduceIte]; refine ⟨d0_none _, ?_⟩)
    | (refine Goes.step rfl (fun w₁ h₁ => ?_); replace hF := hFr _ _ h₁ hF; clear h₁; rw [stepG_cond (t := false) rfl]; simp only [goes_go, if_true, if_false, Bool.false_eq_true, ↓reduceIte]; refine ⟨d0_none _, ?_⟩)
    | (refine Goes.step rfl (fun w₁ h₁ => ?_); replace hF := hFr _ _ h₁ hF; clear h₁; rw [stepG_unwanted rfl rfl]; simp only [goes_go]; refine ⟨d0_none _, ?_⟩; walk_nrm)
    | (refine Goes.step rfl (fun w₁ h₁ => ?_); replace hF := hFr _ _ h₁ hF; clear h₁; rw [stepG_defer rfl rfl (by decide) rfl]; simp only [goes_go]; refine ⟨d0_none _, ?_⟩; walk_nrm)
    | (refine Goes.step rfl (fun w₁ h₁ => ?_); replace hF := hFr _ _ h₁ hF; clear h₁; rw [stepG_entry_pure (.bool false) rfl rfl (by decide) rfl wgLib.f_inBubble (x_inBubble_n link) (x_inBubble_b link) (x_inBubble_x link) (x_inBubble_f link)]; simp only [goes_go]; refine ⟨d0_none _, ?_⟩; walk_nrm)
    | (refine Goes.step rfl (fun w₁ h₁ => ?_); replace hF := hFr _ _ h₁ hF; clear h₁; refine goes_oper_k rfl rfl (by decide) (fun K hK => ?_); go_simp; try w_num
       refine hK _ _ ⟨d0_evs _ ?_, ?_⟩
       · intro e he; have hm := mem_listed he; simp [go_sem, *] at hm
       clear hK K; try walk_nrm))
  refine Goes.step rfl (fun w₁ h₁ => ?_); replace hF := hFr _ _ h₁ hF; clear h₁
  have hc : w₁.cell? (ad.add i) = some (.int .i64 (p : Int)) := by rw [hF.km.low.cell hlt]; exact hel
  refine goes_oper_k rfl rfl (by decide) (fun K hK => ?_); go_simp
  refine hK _ _ ⟨d0_reads _ (fun e he => by (have hm := mem_listed he; clear hK he; simp [go_sem, *] at hm; subst hm; exact evM_look _ (old_place hI hlt (hS.out _ (addBlk24 ad i))) (by show _ < B; omega))), ?_⟩; clear hK K hc; try walk_nrm
  repeat (first
    | (refine Goes.step rfl (fun w₁ h₁ => ?_); replace hF := hFr _ _ h₁ hF; clear h₁; rw [stepG_region_end]; simp only [goes_go]; refine ⟨d0_none _, ?_⟩)
    | (refine Goes.step rfl (fun w₁ h₁ => ?_); replace hF := hFr _ _ h₁ hF; clear h₁; rw [stepG_skip]; simp only [goes_go]; refine ⟨d0_none _, ?_⟩)
    | (refine Goes.step rfl (fun w₁ h₁ => ?_); replace hF := hFr _ _ h₁ hF; clear h₁; rw [stepG_seq]; simp only [goes_go]; refine ⟨d0_none _, ?_⟩)
    | (refine Goes.step rfl (fun w₁ h₁ => ?_); replace hF := hFr _ _ h₁ hF; clear h₁; rw [stepG_block]; simp only [goes_go]; refine ⟨d0_none _, ?_⟩)
    | (refine Goes.step rfl (fun w₁ h₁ => ?_); replace hF := hFr _ _ h₁ hF; clear h₁; rw [stepG_inBlock]; simp only [goes_go]; refine ⟨d0_none _, ?_⟩)
    | (refine Goes.step rfl (fun w₁ h₁ => ?_); replace hF := hFr _ _ h₁ hF; clear h₁; rw [stepG_region]; simp only [goes_go, List.size_toArray, List.length_cons, List.length_nil, Nat.reduceAdd, Nat.zero_add, List.range, List.range.loop]; refine ⟨d0_none _, ?_⟩)
    | (refine Goes.step rfl (fun w₁ h₁ => ?_); replace hF := hFr _ _ h₁ hF; clear h₁; rw [stepG_cond (t := true) rfl]; simp only [goes_go, if_true, if_false, Bool.false_eq_true, ↓reduceIte]; refine ⟨d0_none _, ?_⟩)
    | (refine Goes.step rfl (fun w₁ h₁ => ?_); replace hF := hFr _ _ h₁ hF; clear h₁; rw [stepG_cond (t := false) rfl]; simp only [goes_go, if_true, if_false, Bool.false_eq_true, ↓reduceIte]; refine ⟨d0_none _, ?_⟩)
    | (refine Goes.step rfl (fun w₁ h₁ => ?_); replace hF := hFr _ _ h₁ hF; clear h₁; rw [stepG_unwanted rfl rfl]; simp only [goes_go]; refine ⟨d0_none _, ?_⟩; walk_nrm)
    | (refine Goes.step rfl (fun w₁ h₁ => ?_); replace hF := hFr _ _ h₁ hF; clear h₁; rw [stepG_defer rfl rfl (by decide) rfl]; simp only [goes_go]; refine ⟨d0_none _, ?_⟩; walk_nrm)
    | (refine Goes.step rfl (fun w₁ h₁ => ?_); replace hF := hFr _ _ h₁ hF; clear h₁; rw [stepG_entry_pure (.bool false) rfl rfl (by decide) rfl wgLib.f_inBubble (x_inBubble_n link) (x_inBubble_b link) (x_inBubble_x link) (x_inBubble_f link)]; simp only [goes_go]; refine ⟨d0_none _, ?_⟩; walk_nrm)
    | (refine Goes.step rfl (fun w₁ h₁ => ?_); replace hF := hFr _ _ h₁ hF; clear h₁; refine goes_oper_k rfl rfl (by decide) (fun K hK => ?_); go_simp; try w_num
       refine hK _ _ ⟨d0_evs _ ?_, ?_⟩
       · intro e he; have hm := mem_listed he; simp [go_sem, *] at hm
       clear hK K; try walk_nrm))
  refine Goes.step rfl (fun w₁ h₁ => ?_); replace hF := hFr _ _ h₁ hF; clear h₁
  have hc := hF.arr.cell hp
  refine goes_oper_k rfl rfl (by decide) (fun K hK => ?_); go_simp
  refine hK _ _ ⟨d0_reads _ (fun e he => by (have hm := mem_listed he; clear hK he; simp [go_sem, *] at hm; subst hm; exact evM_look _ (own_place hI (by show I.N < I.N + 2; omega)) (by show I.N + 2 < B; omega))), ?_⟩; clear hK K hc; try walk_nrm
  exact Goes.stop fun w₂ h₂ => H.out _ _ _ _ _ _ _ _ _ _ _ _ _ _ _ _ _ _ _ _ _ _ _ _ _ _ _ _ _ _ _ _ _ _ _ _ _ _ _ _ _ _ _ _ _ _ _ _ _ _ _ _ _ _ _ _ _ _ _ _ _ _ _ (hFr _ _ h₂ hF)

theorem recvM_at {Next : Goroutine → World → Prop} (i p : Nat) (out r : Value) (j2 j3 j4 j8 j9 j11 j12 j13 j14 j15 j16 j17 j18 j19 j20 j21 j22 j23 j24 j25 j26 j27 j28 j29 j30 j31 j32 j33 j34 j35 j36 j37 j38 j39 j40 j44 j45 j46 j47 j48 j49 j50 j51 j52 j53 j54 j55 j56 j57 j58 j60 j61 j62 j63 j64 j65 j66 j67 j68 j69 j70 j71 : Value) (w : World) (h : ∀ w₂, AsideM (mcfg I S b B) I.ps.length w w₂ → Next (gGotM I cs i out r j2 j3 j4 j8 j9 j11 j12 j13 j14 j15 j16 j17 j18 j19 j20 j21 j22 j23 j24 j25 j26 j27 j28 j29 j30 j31 j32 j33 j34 j35 j36 j37 j38 j39 j40 j44 j45 j46 j47 j48 j49 j50 j51 j52 j53 j54 j55 j56 j57 j58 (.chan (some (I.N + 3 + p))) j61 j62 j63 j64 j65 j66 j67 j68 j69 j70 j71) w₂) : AtTurnM (mcfg I S b B) p Next r (gRecvM I cs i p out j2 j3 j4 j8 j9 j11 j12 j13 j14 j15 j16 j17 j18 j19 j20 j21 j22 j23 j24 j25 j26 j27 j28 j29 j30 j31 j32 j33 j34 j35 j36 j37 j38 j39 j40 j44 j45 j46 j47 j48 j49 j50 j51 j52 j53 j54 j55 j56 j57 j58 j60 j61 j62 j63 j64 j65 j66 j67 j68 j69 j70 j71) w := by
  refine ⟨rfl, #[], ?_, by simp, h⟩
  show stepG Try.prog true _ w = _
  unfold gRecvM
  have e : (mcfg I S b B).c p = I.N + 3 + p := rfl
  rw [e, stepG_comm (cases := #[rcase (I.N + 3 + p) zer]) (blocking := true) (shape := .recv true) (w' := w) rfl rfl (by decide) (by simp [go_sem, execOp, rcase, Act.eval, zer, ops14r, in14b, Lb14, tail14, body14, Try.f14]), listed_none (by simp [go_sem, execOp, Act.eval, ops14r, in14b, Lb14, tail14, body14, Try.f14])]
  rfl

theorem got_none (hI : I.Ok S) (n i : Nat) (hi : i < I.ts.length) {out : Value} {xs : List Int} (h : ∀ j2 j3 j4 j8 j9 j11 j12 j13 j14 j15 j16 j17 j18 j19 j20 j21 j22 j23 j24 j25 j26 j27 j28 j29 j30 j31 j32 j33 j34 j35 j36 j37 j38 j39 j40 j44 j45 j46 j47 j48 j49 j50 j51 j52 j53 j54 j55 j56 j57 j58 j59 j60 j61 j62 j63 j64 j65 j66 j67 j68 j69 j70 j71 w, TF I out xs w → Goes Try.prog true (AsideM (mcfg I S b B) I.ps.length) (D0 (mcfg I S b B) I.ps.length) (Stop) n (gTurn I cs (i + 1) out j2 j3 j4 j8 j9 j11 j12 j13 j14 j15 j16 j17 j18 j19 j20 j21 j22 j23 j24 j25 j26 j27 j28 j29 j30 j31 j32 j33 j34 j35 j36 j37 j38 j39 j40 j44 j45 j46 j47 j48 j49 j50 j51 j52 j53 j54 j55 j56 j57 j58 j59 j60 j61 j62 j63 j64 j65 j66 j67 j68 j69 j70 j71) w) (j2 j3 j4 j8 j9 j11 j12 j13 j14 j15 j16 j17 j18 j19 j20 j21 j22 j23 j24 j25 j26 j27 j28 j29 j30 j31 j32 j33 j34 j35 j36 j37 j38 j39 j40 j44 j45 j46 j47 j48 j49 j50 j51 j52 j53 j54 j55 j56 j57 j58 j59 j61 j62 j63 j64 j65 j66 j67 j68 j69 j70 j71 : Value) (w : World) (hF : TF I out xs w) : Goes Try.prog true (AsideM (mcfg I S b B) I.ps.length) (D0 (mcfg I S b B) I.ps.length) (Stop) (n + 40) (gGotM I cs i out (found none) j2 j3 j4 j8 j9 j11 j12 j13 j14 j15 j16 j17 j18 j19 j20 j21 j22 j23 j24 j25 j26 j27 j28 j29 j30 j31 j32 j33 j34 j35 j36 j37 j38 j39 j40 j44 j45 j46 j47 j48 j49 j50 j51 j52 j53 j54 j55 j56 j57 j58 j59 j61 j62 j63 j64 j65 j66 j67 j68 j69 j70 j71) w := by
  have hFr : ∀ w w₁, AsideM (mcfg I S b B) I.ps.length w w₁ → TF I out xs w → TF I out xs w₁ := fun w w₁ r h => h.rely r
  have e : IntKind.i64.wrap ((i : Int) + 1) = ((i + 1 : Nat) : Int) := by have := hI.tlen; rw [IntKind.wrap_i64]; omega
  have H := Lib.hid @h
  clear h
  simp only [gTurn, gGotM, found, zer, rest14r, post14b, in14b, ops14r, ops14c, ops14w, La14, Lb14, tail14, body14, Try.f14, Option.getD_some, num] at H ⊢
  repeat (first
    | (refine Goes.step rfl (fun w₁ h₁ => ?_); replace hF := hFr _ _ h₁ hF; clear h₁; rw [stepG_region_end]; simp only [goes_go]; refine ⟨d0_none _, ?_⟩)
    | (refine Goes.step rfl (fun w₁ h₁ => ?_); replace hF := hFr _ _ h₁ hF; clear h₁; rw [stepG_skip]; simp only [goes_go]; refine ⟨d0_none _, ?_⟩)
    | (refine Goes.step rfl (fun w₁ h₁ => ?_); replace hF := hFr _ _ h₁ hF; clear h₁; rw [stepG_seq]; simp only [goes_go]; refine ⟨d0_none _, ?_⟩)
    | (refine Goes.step rfl (fun w₁ h₁ => ?_); replace hF := hFr _ _ h₁ hF; clear h₁; rw [stepG_block]; simp only [goes_go]; refine ⟨d0_none _, ?_⟩)
    | (refine Goes.step rfl (fun w₁ h₁ => ?_); replace hF := hFr _ _ h₁ hF; clear h₁; rw [stepG_inBlock]; simp only [goes_go]; refine ⟨d0_none _, ?_⟩)
    | (refine Goes.step rfl (fun w₁ h₁ => ?_); replace hF := hFr _ _ h₁ hF; clear h₁; rw [stepG_region]; simp only [goes_go, List.size_toArray, List.length_cons, List.length_nil, Nat.reduceAdd, Nat.zero_add, List.range, List.range.loop]; refine ⟨d0_none _, ?_⟩)
    | (refine Goes.step rfl (fun w₁ h₁ => ?_); replace hF := hFr _ _ h₁ hF; clear h₁; rw [stepG_cond (t := true) rfl]; simp only [goes_go, if_true, if_false, Bool.false_eq_true, ↓reduceIte]; refine ⟨d0_none _, ?_⟩)
    | (refine Goes.step rfl (fun w₁ h₁ => ?_); replace hF := hFr _ _ h₁ hF; clear h₁; rw [stepG_cond (t := false) rfl]; simp only [goes_go, if_true, if_false, Bool.false_eq_true, ↓reduceIte]; refine ⟨d0_none _, ?_⟩)
    | (refine Goes.step rfl (fun w₁ h₁ => ?_); replace hF := hFr _ _ h₁ hF; clear h₁; rw [stepG_unwanted rfl rfl]; simp only [goes_go]; refine ⟨d0_none _, ?_⟩; walk_nrm)
    | (refine Goes.step rfl (fun w₁ h₁ => ?_); replace hF := hFr _ _ h₁ hF; clear h₁; rw [stepG_defer rfl rfl (by decide) rfl]; simp only [goes_go]; refine ⟨d0_none _, ?_⟩; walk_nrm)
    | (refine Goes.step rfl (fun w₁ h₁ => ?_); replace hF := hFr _ _ h₁ hF; clear h₁; rw [stepG_entry_pure (.bool false) rfl rfl (by decide) rfl wgLib.f_inBubble (x_inBubble_n link) (x_inBubble_b link) (x_inBubble_x link) (x_inBubble_f link)]; simp only [goes_go]; refine ⟨d0_none _, ?_⟩; walk_nrm)
    | (refine Goes.step rfl (fun w₁ h₁ => ?_); replace hF := hFr _ _ h₁ hF; clear h₁; refine goes_oper_k rfl rfl (by decide) (fun K hK => ?_); go_simp; try w_num
       refine hK _ _ ⟨d0_evs _ ?_, ?_⟩
       · intro e he; have hm := mem_listed he; simp [go_sem, *] at hm
       clear hK K; try walk_nrm))
  refine Goes.step rfl (fun w₁ h₁ => ?_); replace hF := hFr _ _ h₁ hF; clear h₁; rw [stepG_inLoop]; simp only [goes_go]; refine ⟨d0_none _, ?_⟩
  exact (H.out _ _ _ _ _ _ _ _ _ _ _ _ _ _ _ _ _ _ _ _ _ _ _ _ _ _ _ _ _ _ _ _ _ _ _ _ _ _ _ _ _ _ _ _ _ _ _ _ _ _ _ _ _ _ _ _ _ _ _ _ _ _ _ _ hF).mono (by omega)

theorem got_some (hI : I.Ok S) (hB : I.N + 6 + I.ps.length + 2 * I.ts.length ≤ B) (n i : Nat) (hi : i < I.ts.length) {out : Value} {xs : List Int} (v : Int) (hx : xs.length ≤ i) (h : ∀ out j2 j3 j4 j8 j9 j11 j12 j13 j14 j15 j16 j17 j18 j19 j20 j21 j22 j23 j24 j25 j26 j27 j28 j29 j30 j31 j32 j33 j34 j35 j36 j37 j38 j39 j40 j44 j45 j46 j47 j48 j49 j50 j51 j52 j53 j54 j55 j56 j57 j58 j59 j60 j61 j62 j63 j64 j65 j66 j67 j68 j69 j70 j71 w, TF I out (xs ++ [v]) w → Goes Try.prog true (AsideM (mcfg I S b B) I.ps.length) (D0 (mcfg I S b B) I.ps.length) (Stop) n (gTurn I cs (i + 1) out j2 j3 j4 j8 j9 j11 j12 j13 j14 j15 j16 j17 j18 j19 j20 j21 j22 j23 j24 j25 j26 j27 j28 j29 j30 j31 j32 j33 j34 j35 j36 j37 j38 j39 j40 j44 j45 j46 j47 j48 j49 j50 j51 j52 j53 j54 j55 j56 j57 j58 j59 j60 j61 j62 j63 j64 j65 j66 j67 j68 j69 j70 j71) w) (j2 j3 j4 j8 j9 j11 j12 j13 j14 j15 j16 j17 j18 j19 j20 j21 j22 j23 j24 j25 j26 j27 j28 j29 j30 j31 j32 j33 j34 j35 j36 j37 j38 j39 j40 j44 j45 j46 j47 j48 j49 j50 j51 j52 j53 j54 j55 j56 j57 j58 j59 j61 j62 j63 j64 j65 j66 j67 j68 j69 j70 j71 : Value) (w : World) (hF : TF I out xs w) : Goes Try.prog true (AsideM (mcfg I S b B) I.ps.length) (D0 (mcfg I S b B) I.ps.length) (Stop) (n + 60) (gGotM I cs i out (found (some v)) j2 j3 j4 j8 j9 j11 j12 j13 j14 j15 j16 j17 j18 j19 j20 j21 j22 j23 j24 j25 j26 j27 j28 j29 j30 j31 j32 j33 j34 j35 j36 j37 j38 j39 j40 j44 j45 j46 j47 j48 j49 j50 j51 j52 j53 j54 j55 j56 j57 j58 j59 j61 j62 j63 j64 j65 j66 j67 j68 j69 j70 j71) w := by
  have hFr : ∀ w w₁, AsideM (mcfg I S b B) I.ps.length w w₁ → TF I out xs w → TF I out xs w₁ := fun w w₁ r h => h.rely r
  have e : IntKind.i64.wrap ((i : Int) + 1) = ((i + 1 : Nat) : Int) := by have := hI.tlen; rw [IntKind.wrap_i64]; omega
  have htl := hI.tlen
  have H := Lib.hid @h
  clear h
  simp only [gTurn, gGotM, found, rest14r, post14b, in14b, ops14r, ops14c, ops14w, La14, Lb14, tail14, body14, Try.f14, Option.getD_some, num] at H ⊢
  repeat (first
    | (refine Goes.step rfl (fun w₁ h₁ => ?_); replace hF := hFr _ _ h₁ hF; clear h₁; rw [stepG_region_end]; simp only [goes_go]; refine ⟨d0_none _, ?_⟩)
    | (refine Goes.step rfl (fun w₁ h₁ => ?_); replace hF := hFr _ _ h₁ hF; clear h₁; rw [stepG_skip]; simp only [goes_go]; refine ⟨d0_none _, ?_⟩)
    | (refine Goes.step rfl (fun w₁ h₁ => ?_); replace hF := hFr _ _ h₁ hF; clear h₁; rw [stepG_seq]; simp only [goes_go]; refine ⟨d0_none _, ?_⟩)
    | (refine Goes.step rfl (fun w₁ h₁ => ?_); replace hF := hFr _ _ h₁ hF; clear h₁; rw [stepG_block]; simp only [goes_go]; refine ⟨d0_none _, ?_⟩)
    | (refine Goes.step rfl (fun w₁ h₁ => ?_); replace hF := hFr _ _ h₁ hF; clear h₁; rw [stepG_inBlock]; simp only [goes_go]; refine ⟨d0_none _, ?_⟩)
    | (refine Goes.step rfl (fun w₁ h₁ => ?_); replace hF := hFr _ _ h₁ hF; clear h₁; rw [stepG_region]; simp only [goes_go, List.size_toArray, List.length_cons, List.length_nil, Nat.reduceAdd, Nat.zero_add, List.range, List.range.loop]; refine ⟨d0_none _, ?_⟩)
    | (refine Goes.step rfl (fun w₁ h₁ => ?_); replace hF := hFr _ _ h₁ hF; clear h₁; rw [stepG_cond (t := true) rfl]; simp only [goes_go, if_true, if_false, Bool.false_eq_true, ↓reduceIte]; refine ⟨d0_none _, ?_⟩)
    | (refine Goes.step rfl (fun w₁ h₁ => ?_); replace hF := hFr _ _ h₁ hF; clear h₁; rw [stepG_cond (t := false) rfl]; simp only [goes_go, if_true, if_false, Bool.false_eq_true, ↓reduceIte]; refine ⟨d0_none _, ?_⟩)
    | (refine Goes.step rfl (fun w₁ h₁ => ?_); replace hF := hFr _ _ h₁ hF; clear h₁; rw [stepG_unwanted rfl rfl]; simp only [goes_go]; refine ⟨d0_none _, ?_⟩; walk_nrm)
    | (refine Goes.step rfl (fun w₁ h₁ => ?_); replace hF := hFr _ _ h₁ hF; clear h₁; rw [stepG_defer rfl rfl (by decide) rfl]; simp only [goes_go]; refine ⟨d0_none _, ?_⟩; walk_nrm)
    | (refine Goes.step rfl (fun w₁ h₁ => ?_); replace hF := hFr _ _ h₁ hF; clear h₁; rw [stepG_entry_pure (.bool false) rfl rfl (by decide) rfl wgLib.f_inBubble (x_inBubble_n link) (x_inBubble_b link) (x_inBubble_x link) (x_inBubble_f link)]; simp only [goes_go]; refine ⟨d0_none _, ?_⟩; walk_nrm)
    | (refine Goes.step rfl (fun w₁ h₁ => ?_); replace hF := hFr _ _ h₁ hF; clear h₁; refine goes_oper_k rfl rfl (by decide) (fun K hK => ?_); go_simp; try w_num
       refine hK _ _ ⟨d0_evs _ ?_, ?_⟩
       · intro e he; have hm := mem_listed he; simp [go_sem, *] at hm
       clear hK K; try walk_nrm))
  refine Goes.step rfl (fun w₁ h₁ => ?_); replace hF := hFr _ _ h₁ hF; clear h₁
  have hs1 := hF.size
  have hs2 := hF.most
  refine goes_oper_k rfl rfl (by decide) (fun K hK => ?_); go_simp
  refine hK _ _ ⟨⟨fun k => KM.alloc (I := I) k _, fun p hp => heap_alloc_old _ _ _ (by have hp : p < I.ps.length := hp; show I.N + 3 + p < _; omega), heap_alloc_old _ _ _ (by show I.N + 1 < _; omega), heap_alloc_old _ _ _ (by show I.N < _; omega), fun e he => by (have hm := mem_listed he; clear hK he; simp [go_sem] at hm)⟩, ?_⟩
  clear hK K
  have hnew : (w₁.alloc (.cells #[.int .i64 v] 3)).cell? ⟨w₁.heap.size, 0, none⟩ = some (.int .i64 v) := by rw [World.cell?_alloc_at _ _ _ _ rfl]; rfl
  have hkm := hF.km.alloc (.cells #[.int .i64 v] 3)
  have harr := hF.arr.alloc (.cells #[.int .i64 v] 3)
  have hown := hF.own.alloc (.cells #[.int .i64 v] 3)
  have hsz : (w₁.alloc (.cells #[.int .i64 v] 3)).heap.size = w₁.heap.size + 1 := by simp
  clear hF hFr
  generalize w₁.alloc (.cells #[.int .i64 v] 3) = w₂ at hnew hkm harr hown hsz ⊢
  refine Goes.step rfl (fun w₃ h₃ => ?_)
  replace hkm := hkm.rely h₃
  replace harr := harr.rely h₃
  have hown3 := own_rely hown (Nat.le_refl _) h₃
  have hnew3 : w₃.cell? ⟨w₁.heap.size, 0, none⟩ = some (.int .i64 v) := (World.cell?_of_block (h₃.block _ (by show w₁.heap.size ≠ I.N; omega) fun p hp => by have hp : p < I.ps.length := hp; show w₁.heap.size ≠ I.N + 3 + p; omega)).trans hnew
  have hsz3 : w₃.heap.size = w₁.heap.size + 1 := h₃.size.trans hsz
  clear h₃ hown hnew hsz
  have hnews : ∀ (j : Nat) u, [Value.int .i64 v][j]? = some u → w₃.cell? ((⟨w₁.heap.size, 0, none⟩ : Addr).add j) = some u := by
    intro j u hj
    match j, hj with
    | 0, hj => simp at hj; subst hj; simpa [Addr.add] using hnew3
  obtain ⟨out', w₄, hr, hown', hgrow, hmost, _, hevs⟩ := append_ints w₃ (I.N + 3 + I.ps.length) 22 out xs.length (xs.map num) hown3 ⟨w₁.heap.size, 0, none⟩ 1 1 [.int .i64 v] rfl hnews (fun u hu => by simp at hu; subst hu; rfl) (by omega) (by omega)
  have hol : ∀ k, out.ownBlock = some k → I.N + 3 + I.ps.length ≤ k ∧ k < w₃.heap.size := hown3.lt
  refine goes_oper_k rfl rfl (by decide) (fun K hK => ?_)
  refine uponK_append (.tmp 64) (.tmp 66) 22 rfl rfl rfl hr (hK _ _ ⟨⟨fun k => KM.grown (I := I) k hgrow (fun k hk => by have := (hol k hk).1; omega), fun p hp => hgrow.block _ (by have hp : p < I.ps.length := hp; show I.N + 3 + p < _; omega) (fun e => by
      have hp : p < I.ps.length := hp
      have hk := (hol _ e.symm).1
      have e' : (mcfg I S b B).c p = I.N + 3 + p := rfl
      omega), hgrow.block _ (by show I.N + 1 < _; omega) (fun e => by
      have hk := (hol _ e.symm).1
      have e' : (mcfg I S b B).d = I.N + 1 := rfl
      omega), hgrow.block _ (by show I.N < _; omega) (fun e => by
      have hk := (hol _ e.symm).1
      have e' : (mcfg I S b B).Wg = I.N := rfl
      omega), fun e he => ?_⟩, ?_⟩)
  · have hm' := mem_listed he
    rw [events_append_op (.tmp 64) (.tmp 66) 22 rfl rfl rfl] at hm'
    exact evM_app hI (hevs e hm') (by show I.N < w₁.heap.size; omega) (by show w₁.heap.size < B; omega) (fun k hk => by have := hol k hk; have e' : (mcfg I S b B).B = B := rfl; constructor <;> omega)
  clear hK K
  have hF : TF I out' (xs ++ [v]) w₄ := ⟨hkm.grown hgrow (fun k hk => by have := (hol k hk).1; omega), harr.grown hgrow (fun k hk => by have := (hol k hk).1; omega), by simpa [num] using hown', Nat.le_trans (by omega) hgrow.size, by simp only [List.length_append, List.length_cons, List.length_nil]; omega⟩
  clear hr hown' hgrow hevs hnews hnew3 hown3 hkm harr hmost hol
  have hFr : ∀ w w₁, AsideM (mcfg I S b B) I.ps.length w w₁ → TF I out' (xs ++ [v]) w → TF I out' (xs ++ [v]) w₁ := fun w w₁ r h => h.rely r
  try walk_nrm
  repeat (first
    | (refine Goes.step rfl (fun w₁ h₁ => ?_); replace hF := hFr _ _ h₁ hF; clear h₁; rw [stepG_region_end]; simp only [goes_go]; refine ⟨d0_none _, ?_⟩)
    | (refine Goes.step rfl (fun w₁ h₁ => ?_); replace hF := hFr _ _ h₁ hF; clear h₁; rw [stepG_skip]; simp only [goes_go]; refine ⟨d0_none _, ?_⟩)
    | (refine Goes.step rfl (fun w₁ h₁ => ?_); replace hF := hFr _ _ h₁ hF; clear h₁; rw [stepG_seq]; simp only [goes_go]; refine ⟨d0_none _, ?_⟩)
    | (refine Goes.step rfl (fun w₁ h₁ => ?_); replace hF := hFr _ _ h₁ hF; clear h₁; rw [stepG_block]; simp only [goes_go]; refine ⟨d0_none _, ?_⟩)
    | (refine Goes.step rfl (fun w₁ h₁ => ?_); replace hF := hFr _ _ h₁ hF; clear h₁; rw [stepG_inBlock]; simp only [goes_go]; refine ⟨d0_none _, ?_⟩)
    | (refine Goes.step rfl (fun w₁ h₁ => ?_); replace hF := hFr _ _ h₁ hF; clear h₁; rw [stepG_region]; simp only [goes_go, List.size_toArray, List.length_cons, List.length_nil, Nat.reduceAdd, Nat.zero_add, List.range, List.range.loop]; refine ⟨d0_none _, ?_⟩)
    | (refine Goes.step rfl (fun w₁ h₁ => ?_); replace hF := hFr _ _ h₁ hF; clear h₁; rw [stepG_cond (t := true) rfl]; simp only [goes_go, if_true, if_false, Bool.false_eq_true, ↓reduceIte]; refine ⟨d0_none _, ?_⟩)
    | (refine Goes.step rfl (fun w₁ h₁ => ?_); replace hF := hFr _ _ h₁ hF; clear h₁; rw [stepG_cond (t := false) rfl]; simp only [goes_go, if_true, if_false, Bool.false_eq_true, ↓reduceIte]; refine ⟨d0_none _, ?_⟩)
    | (refine Goes.step rfl (fun w₁ h₁ => ?_); replace hF := hFr _ _ h₁ hF; clear h₁; rw [stepG_unwanted rfl rfl]; simp only [goes_go]; refine ⟨d0_none _, ?_⟩; walk_nrm)
    | (refine Goes.step rfl (fun w₁ h₁ => ?_); replace hF := hFr _ _ h₁ hF; clear h₁; rw [stepG_defer rfl rfl (by decide) rfl]; simp only [goes_go]; refine ⟨d0_none _, ?_⟩; walk_nrm)
    | (refine Goes.step rfl (fun w₁ h₁ => ?_); replace hF := hFr _ _ h₁ hF; clear h₁; rw [stepG_entry_pure (.bool false) rfl rfl (by decide) rfl wgLib.f_inBubble (x_inBubble_n link) (x_inBubble_b link) (x_inBubble_x link) (x_inBubble_f link)]; simp only [goes_go]; refine ⟨d0_none _, ?_⟩; walk_nrm)
    | (refine Goes.step rfl (fun w₁ h₁ => ?_); replace hF := hFr _ _ h₁ hF; clear h₁; refine goes_oper_k rfl rfl (by decide) (fun K hK => ?_); go_simp; try w_num
       refine hK _ _ ⟨d0_evs _ ?_, ?_⟩
       · intro e he; have hm := mem_listed he; simp [go_sem, *] at hm
       clear hK K; try walk_nrm))
  refine Goes.step rfl (fun w₁ h₁ => ?_); replace hF := hFr _ _ h₁ hF; clear h₁; rw [stepG_inLoop]; simp only [goes_go]; refine ⟨d0_none _, ?_⟩
  exact (H.out out' _ _ _ _ _ _ _ _ _ _ _ _ _ _ _ _ _ _ _ _ _ _ _ _ _ _ _ _ _ _ _ _ _ _ _ _ _ _ _ _ _ _ _ _ _ _ _ _ _ _ _ _ _ _ _ _ _ _ _ _ _ _ _ _ hF).mono (by omega)

/-- Behind the last turn: to the close. -/
theorem turn_end {out : Value} {xs : List Int} (h : ∀ j2 j3 j4 j8 j9 j11 j12 j13 j14 j15 j16 j17 j18 j19 j20 j21 j22 j23 j24 j25 j26 j27 j28 j29 j30 j31 j32 j33 j34 j35 j36 j37 j38 j39 j40 j41 j42 j43 j44 j45 j46 j47 j48 j49 j50 j51 j52 j53 j54 j55 j56 j57 j58 j59 j60 j61 j62 j63 j64 j65 j66 j67 j68 j70 j71 w, TF I out xs w → Stop (gCloseM I cs out j2 j3 j4 j8 j9 j11 j12 j13 j14 j15 j16 j17 j18 j19 j20 j21 j22 j23 j24 j25 j26 j27 j28 j29 j30 j31 j32 j33 j34 j35 j36 j37 j38 j39 j40 j41 j42 j43 j44 j45 j46 j47 j48 j49 j50 j51 j52 j53 j54 j55 j56 j57 j58 j59 j60 j61 j62 j63 j64 j65 j66 j67 j68 j70 j71) w) (j2 j3 j4 j8 j9 j11 j12 j13 j14 j15 j16 j17 j18 j19 j20 j21 j22 j23 j24 j25 j26 j27 j28 j29 j30 j31 j32 j33 j34 j35 j36 j37 j38 j39 j40 j44 j45 j46 j47 j48 j49 j50 j51 j52 j53 j54 j55 j56 j57 j58 j59 j60 j61 j62 j63 j64 j65 j66 j67 j68 j69 j70 j71 : Value) (w : World) (hF : TF I out xs w) : Goes Try.prog true (AsideM (mcfg I S b B) I.ps.length) (D0 (mcfg I S b B) I.ps.length) (Stop) 40 (gTurn I cs I.ts.length out j2 j3 j4 j8 j9 j11 j12 j13 j14 j15 j16 j17 j18 j19 j20 j21 j22 j23 j24 j25 j26 j27 j28 j29 j30 j31 j32 j33 j34 j35 j36 j37 j38 j39 j40 j44 j45 j46 j47 j48 j49 j50 j51 j52 j53 j54 j55 j56 j57 j58 j59 j60 j61 j62 j63 j64 j65 j66 j67 j68 j69 j70 j71) w := by
  have hFr : ∀ w w₁, AsideM (mcfg I S b B) I.ps.length w w₁ → TF I out xs w → TF I out xs w₁ := fun w w₁ r h => h.rely r
  have H := Lib.hid @h
  clear h
  simp only [gTurn, gCloseM, rest14r, post14b, in14b, ops14r, ops14c, ops14w, La14, Lb14, tail14, body14, Try.f14, Option.getD_some, num] at H ⊢
  repeat (first
    | (refine Goes.step rfl (fun w₁ h₁ => ?_); replace hF := hFr _ _ h₁ hF; clear h₁; rw [stepG_region_end]; simp only [goes_go]; refine ⟨d0_none _, ?_⟩)
    | (refine Goes.step rfl (fun w₁ h₁ => ?_); replace hF := hFr _ _ h₁ hF; clear h₁; rw [stepG_skip]; simp only [goes_go]; refine ⟨d0_none _, ?_⟩)
    | (refine Goes.step rfl (fun w₁ h₁ => ?_); replace hF := hFr _ _ h₁ hF; clear h₁; rw [stepG_seq]; simp only [goes_go]; refine ⟨d0_none _, ?_⟩)
    | (refine Goes.step rfl (fun w₁ h₁ => ?_); replace hF := hFr _ _ h₁ hF; clear h₁; rw [stepG_block]; simp only [goes_go]; refine ⟨d0_none _, ?_⟩)
    | (refine Goes.step rfl (fun w₁ h₁ => ?_); replace hF := hFr _ _ h₁ hF; clear h₁; rw [stepG_inBlock]; simp only [goes_go]; refine ⟨d0_none _, ?_⟩)
    | (refine Goes.step rfl (fun w₁ h₁ => ?_); replace hF := hFr _ _ h₁ hF; clear h₁; rw [stepG_region]; simp only [goes_go, List.size_toArray, List.length_cons, List.length_nil, Nat.reduceAdd, Nat.zero_add, List.range, List.range.loop]; refine ⟨d0_none _, ?_⟩)
    | (refine Goes.step rfl (fun w₁ h₁ => ?_); replace hF := hFr _ _ h₁ hF; clear h₁; rw [stepG_cond (t := true) rfl]; simp only [goes_go, if_true, if_false, Bool.false_eq_true, ↓reduceIte]; refine ⟨d0_none _, ?_⟩)
    | (refine Goes.step rfl (fun w₁ h₁ => ?_); replace hF := hFr _ _ h₁ hF; clear h₁; rw [stepG_cond (t := false) rfl]; simp only [goes_go, if_true, if_false, Bool.false_eq_true, ↓reduceIte]; refine ⟨d0_none _, ?_⟩)
    | (refine Goes.step rfl (fun w₁ h₁ => ?_); replace hF := hFr _ _ h₁ hF; clear h₁; rw [stepG_unwanted rfl rfl]; simp only [goes_go]; refine ⟨d0_none _, ?_⟩; walk_nrm)
    | (refine Goes.step rfl (fun w₁ h₁ => ?_); replace hF := hFr _ _ h₁ hF; clear h₁; rw [stepG_defer rfl rfl (by decide) rfl]; simp only [goes_go]; refine ⟨d0_none _, ?_⟩; walk_nrm)
    | (refine Goes.step rfl (fun w₁ h₁ => ?_); replace hF := hFr _ _ h₁ hF; clear h₁; rw [stepG_entry_pure (.bool false) rfl rfl (by decide) rfl wgLib.f_inBubble (x_inBubble_n link) (x_inBubble_b link) (x_inBubble_x link) (x_inBubble_f link)]; simp only [goes_go]; refine ⟨d0_none _, ?_⟩; walk_nrm)
    | (refine Goes.step rfl (fun w₁ h₁ => ?_); replace hF := hFr _ _ h₁ hF; clear h₁; refine goes_oper_k rfl rfl (by decide) (fun K hK => ?_); go_simp; try w_num
       refine hK _ _ ⟨d0_evs _ ?_, ?_⟩
       · intro e he; have hm := mem_listed he; simp [go_sem, *] at hm
       clear hK K; try walk_nrm))
  refine Goes.step rfl (fun w₁ h₁ => ?_); replace hF := hFr _ _ h₁ hF; clear h₁; refine goes_exit rfl ?_; refine ⟨d0_none _, ?_⟩
  repeat (first
    | (refine Goes.step rfl (fun w₁ h₁ => ?_); replace hF := hFr _ _ h₁ hF; clear h₁; rw [stepG_region_end]; simp only [goes_go]; refine ⟨d0_none _, ?_⟩)
    | (refine Goes.step rfl (fun w₁ h₁ => ?_); replace hF := hFr _ _ h₁ hF; clear h₁; rw [stepG_skip]; simp only [goes_go]; refine ⟨d0_none _, ?_⟩)
    | (refine Goes.step rfl (fun w₁ h₁ => ?_); replace hF := hFr _ _ h₁ hF; clear h₁; rw [stepG_seq]; simp only [goes_go]; refine ⟨d0_none _, ?_⟩)
    | (refine Goes.step rfl (fun w₁ h₁ => ?_); replace hF := hFr _ _ h₁ hF; clear h₁; rw [stepG_block]; simp only [goes_go]; refine ⟨d0_none _, ?_⟩)
    | (refine Goes.step rfl (fun w₁ h₁ => ?_); replace hF := hFr _ _ h₁ hF; clear h₁; rw [stepG_inBlock]; simp only [goes_go]; refine ⟨d0_none _, ?_⟩)
    | (refine Goes.step rfl (fun w₁ h₁ => ?_); replace hF := hFr _ _ h₁ hF; clear h₁; rw [stepG_region]; simp only [goes_go, List.size_toArray, List.length_cons, List.length_nil, Nat.reduceAdd, Nat.zero_add, List.range, List.range.loop]; refine ⟨d0_none _, ?_⟩)
    | (refine Goes.step rfl (fun w₁ h₁ => ?_); replace hF := hFr _ _ h₁ hF; clear h₁; rw [stepG_cond (t := true) rfl]; simp only [goes_go, if_true, if_false, Bool.false_eq_true, ↓reduceIte]; refine ⟨d0_none _, ?_⟩)
    | (refine Goes.step rfl (fun w₁ h₁ => ?_); replace hF := hFr _ _ h₁ hF; clear h₁; rw [stepG_cond (t := false) rfl]; simp only [goes_go, if_true, if_false, Bool.false_eq_true, ↓reduceIte]; refine ⟨d0_none _, ?_⟩)
    | (refine Goes.step rfl (fun w₁ h₁ => ?_); replace hF := hFr _ _ h₁ hF; clear h₁; rw [stepG_unwanted rfl rfl]; simp only [goes_go]; refine ⟨d0_none _, ?_⟩; walk_nrm)
    | (refine Goes.step rfl (fun w₁ h₁ => ?_); replace hF := hFr _ _ h₁ hF; clear h₁; rw [stepG_defer rfl rfl (by decide) rfl]; simp only [goes_go]; refine ⟨d0_none _, ?_⟩; walk_nrm)
    | (refine Goes.step rfl (fun w₁ h₁ => ?_); replace hF := hFr _ _ h₁ hF; clear h₁; rw [stepG_entry_pure (.bool false) rfl rfl (by decide) rfl wgLib.f_inBubble (x_inBubble_n link) (x_inBubble_b link) (x_inBubble_x link) (x_inBubble_f link)]; simp only [goes_go]; refine ⟨d0_none _, ?_⟩; walk_nrm)
    | (refine Goes.step rfl (fun w₁ h₁ => ?_); replace hF := hFr _ _ h₁ hF; clear h₁; refine goes_oper_k rfl rfl (by decide) (fun K hK => ?_); go_simp; try w_num
       refine hK _ _ ⟨d0_evs _ ?_, ?_⟩
       · intro e he; have hm := mem_listed he; simp [go_sem, *] at hm
       clear hK K; try walk_nrm))
  exact Goes.stop fun w₂ h₂ => H.out _ _ _ _ _ _ _ _ _ _ _ _ _ _ _ _ _ _ _ _ _ _ _ _ _ _ _ _ _ _ _ _ _ _ _ _ _ _ _ _ _ _ _ _ _ _ _ _ _ _ _ _ _ _ _ _ _ _ _ _ _ _ _ _ _ _ (hFr _ _ h₂ hF)

theorem closeM_at {Anch : Goroutine → World → Prop} (out : Value) (j2 j3 j4 j8 j9 j11 j12 j13 j14 j15 j16 j17 j18 j19 j20 j21 j22 j23 j24 j25 j26 j27 j28 j29 j30 j31 j32 j33 j34 j35 j36 j37 j38 j39 j40 j41 j42 j43 j44 j45 j46 j47 j48 j49 j50 j51 j52 j53 j54 j55 j56 j57 j58 j59 j60 j61 j62 j63 j64 j65 j66 j67 j68 j70 j71 : Value) (w : World) (h : ∀ s r w₂, AsideM (mcfg I S b B) I.ps.length (w.setChan (I.N + 1) 0 #[] true s r false) w₂ → WaitsM (mcfg I S b B) Anch (gShutM I cs out j2 j3 j4 j8 j9 j11 j12 j13 j14 j15 j16 j17 j18 j19 j20 j21 j22 j23 j24 j25 j26 j27 j28 j29 j30 j31 j32 j33 j34 j35 j36 j37 j38 j39 j40 j41 j42 j43 j44 j45 j46 j47 j48 j49 j50 j51 j52 j53 j54 j55 j56 j57 j58 j59 j60 j61 j62 j63 j64 j65 j66 j67 j68 (.chan (some (I.N + 1))) j70 j71) w₂) : AtStopM (mcfg I S b B) Anch (gCloseM I cs out j2 j3 j4 j8 j9 j11 j12 j13 j14 j15 j16 j17 j18 j19 j20 j21 j22 j23 j24 j25 j26 j27 j28 j29 j30 j31 j32 j33 j34 j35 j36 j37 j38 j39 j40 j41 j42 j43 j44 j45 j46 j47 j48 j49 j50 j51 j52 j53 j54 j55 j56 j57 j58 j59 j60 j61 j62 j63 j64 j65 j66 j67 j68 j70 j71) w := by
  refine ⟨rfl, rfl, gShutM I cs out j2 j3 j4 j8 j9 j11 j12 j13 j14 j15 j16 j17 j18 j19 j20 j21 j22 j23 j24 j25 j26 j27 j28 j29 j30 j31 j32 j33 j34 j35 j36 j37 j38 j39 j40 j41 j42 j43 j44 j45 j46 j47 j48 j49 j50 j51 j52 j53 j54 j55 j56 j57 j58 j59 j60 j61 j62 j63 j64 j65 j66 j67 j68 (.chan (some (I.N + 1))) j70 j71, fun s r hc => ?_, h⟩
  show stepG Try.prog true _ w = _
  unfold gCloseM
  have hc : w.heap[I.N + 1]? = some (.chan 0 #[] false s r false) := hc
  rw [stepG_close (x := .tmp 69) rfl rfl (by decide) rfl (by simp [Act.eval]) hc (by kernel_rfl)]
  rfl

/-- At the head of Wait's loop, called by crew.Merge; and behind it. -/
def AnchM (res : List Int) (g : Goroutine) (w : World) : Prop := ∃ out j2 j3 j4 j8 j9 j11 j12 j13 j14 j15 j16 j17 j18 j19 j20 j21 j22 j23 j24 j25 j26 j27 j28 j29 j30 j31 j32 j33 j34 j35 j36 j37 j38 j39 j40 j41 j42 j43 j44 j45 j46 j47 j48 j49 j50 j51 j52 j53 j54 j55 j56 j57 j58 j59 j60 j61 j62 j63 j64 j65 j66 j67 j68 j69 j70 j71 : Value, AnchW (mcfg0 I (fun _ => False) 0 0) (TF I out res) (base 14) ⟨#[.slice I.a0 I.ps.length I.cap, .slice I.b0 I.ts.length I.capb, j2, j3, j4, .pointer (some ⟨I.N, 0, none⟩), .chan (some (I.N + 1)), .slice (some ⟨I.N + 2, 0, none⟩) I.ps.length I.ps.length, j8, j9, out, j11, j12, j13, j14, j15, j16, j17, j18, j19, j20, j21, j22, j23, j24, j25, j26, j27, j28, j29, j30, j31, j32, j33, j34, j35, j36, j37, j38, j39, j40, j41, j42, j43, j44, j45, j46, j47, j48, j49, j50, j51, j52, j53, j54, j55, j56, j57, j58, j59, j60, j61, j62, j63, j64, j65, j66, j67, j68, j69, j70, j71], []⟩ ops14w 0 [] [.code (tail14 10)] cs g w
def FinM (res : List Int) (g : Goroutine) (w : World) : Prop := ∃ out j2 j3 j4 j8 j9 j11 j12 j13 j14 j15 j16 j17 j18 j19 j20 j21 j22 j23 j24 j25 j26 j27 j28 j29 j30 j31 j32 j33 j34 j35 j36 j37 j38 j39 j40 j41 j42 j43 j44 j45 j46 j47 j48 j49 j50 j51 j52 j53 j54 j55 j56 j57 j58 j59 j60 j61 j62 j63 j64 j65 j66 j67 j68 j69 j70 j71 : Value, FinW (TF I out res) (base 14) ⟨#[.slice I.a0 I.ps.length I.cap, .slice I.b0 I.ts.length I.capb, j2, j3, j4, .pointer (some ⟨I.N, 0, none⟩), .chan (some (I.N + 1)), .slice (some ⟨I.N + 2, 0, none⟩) I.ps.length I.ps.length, j8, j9, out, j11, j12, j13, j14, j15, j16, j17, j18, j19, j20, j21, j22, j23, j24, j25, j26, j27, j28, j29, j30, j31, j32, j33, j34, j35, j36, j37, j38, j39, j40, j41, j42, j43, j44, j45, j46, j47, j48, j49, j50, j51, j52, j53, j54, j55, j56, j57, j58, j59, j60, j61, j62, j63, j64, j65, j66, j67, j68, j69, j70, j71], []⟩ ops14w 0 [] [.code (tail14 10)] cs g w

theorem shut_waits (hI : I.Ok S) (res : List Int) (out : Value) (j2 j3 j4 j8 j9 j11 j12 j13 j14 j15 j16 j17 j18 j19 j20 j21 j22 j23 j24 j25 j26 j27 j28 j29 j30 j31 j32 j33 j34 j35 j36 j37 j38 j39 j40 j41 j42 j43 j44 j45 j46 j47 j48 j49 j50 j51 j52 j53 j54 j55 j56 j57 j58 j59 j60 j61 j62 j63 j64 j65 j66 j67 j68 j69 j70 j71 : Value) (w : World) (hF : TF I out res w) : WaitsM (mcfg I S b B) (AnchM I cs res) (gShutM I cs out j2 j3 j4 j8 j9 j11 j12 j13 j14 j15 j16 j17 j18 j19 j20 j21 j22 j23 j24 j25 j26 j27 j28 j29 j30 j31 j32 j33 j34 j35 j36 j37 j38 j39 j40 j41 j42 j43 j44 j45 j46 j47 j48 j49 j50 j51 j52 j53 j54 j55 j56 j57 j58 j59 j60 j61 j62 j63 j64 j65 j66 j67 j68 j69 j70 j71) w := by
  have hFr : ∀ w w₁, AsideM (mcfg I S b B) I.ps.length w w₁ → TF I out res w → TF I out res w₁ := fun w w₁ r h => h.rely r
  refine ⟨60, ?_⟩
  show Goes Try.prog true (AsideM (mcfg I S b B) I.ps.length) (D0 (mcfg I S b B) I.ps.length) (At0Mark (mcfg I S b B) .disable (GP (mcfg I S b B) I.ps.length (AnchM I cs res))) 60 (gShutM I cs out j2 j3 j4 j8 j9 j11 j12 j13 j14 j15 j16 j17 j18 j19 j20 j21 j22 j23 j24 j25 j26 j27 j28 j29 j30 j31 j32 j33 j34 j35 j36 j37 j38 j39 j40 j41 j42 j43 j44 j45 j46 j47 j48 j49 j50 j51 j52 j53 j54 j55 j56 j57 j58 j59 j60 j61 j62 j63 j64 j65 j66 j67 j68 j69 j70 j71) w
  have H : ∀ g w, (∃ j2 j3 j4 j8 j9 j11 j12 j13 j14 j15 j16 j17 j18 j19 j20 j21 j22 j23 j24 j25 j26 j27 j28 j29 j30 j31 j32 j33 j34 j35 j36 j37 j38 j39 j40 j41 j42 j43 j44 j45 j46 j47 j48 j49 j50 j51 j52 j53 j54 j55 j56 j57 j58 j59 j60 j61 j62 j63 j64 j65 j66 j67 j68 j69 j70 j71 : Value, AnchW (mcfg0 I (fun _ => False) 0 0) (TF I out res) (base 14) ⟨#[.slice I.a0 I.ps.length I.cap, .slice I.b0 I.ts.length I.capb, j2, j3, j4, .pointer (some ⟨I.N, 0, none⟩), .chan (some (I.N + 1)), .slice (some ⟨I.N + 2, 0, none⟩) I.ps.length I.ps.length, j8, j9, out, j11, j12, j13, j14, j15, j16, j17, j18, j19, j20, j21, j22, j23, j24, j25, j26, j27, j28, j29, j30, j31, j32, j33, j34, j35, j36, j37, j38, j39, j40, j41, j42, j43, j44, j45, j46, j47, j48, j49, j50, j51, j52, j53, j54, j55, j56, j57, j58, j59, j60, j61, j62, j63, j64, j65, j66, j67, j68, j69, j70, j71], []⟩ ops14w 0 [] [.code (tail14 10)] cs g w) → AnchM I cs res g w := fun g w h => ⟨out, h⟩
  simp only [gShutM, AnchW, L25, body25, Try.f25, rest14r, post14b, in14b, ops14r, ops14c, ops14w, La14, Lb14, tail14, body14, Try.f14, Option.getD_some, num] at H ⊢
  have H := Lib.hid H

  repeat (first
    | (refine Goes.step rfl (fun w₁ h₁ => ?_); replace hF := hFr _ _ h₁ hF; clear h₁; rw [stepG_region_end]; simp only [goes_go]; refine ⟨d0_none _, ?_⟩)
    | (refine Goes.step rfl (fun w₁ h₁ => ?_); replace hF := hFr _ _ h₁ hF; clear h₁; rw [stepG_skip]; simp only [goes_go]; refine ⟨d0_none _, ?_⟩)
    | (refine Goes.step rfl (fun w₁ h₁ => ?_); replace hF := hFr _ _ h₁ hF; clear h₁; rw [stepG_seq]; simp only [goes_go]; refine ⟨d0_none _, ?_⟩)
    | (refine Goes.step rfl (fun w₁ h₁ => ?_); replace hF := hFr _ _ h₁ hF; clear h₁; rw [stepG_block]; simp only [goes_go]; refine ⟨d0_none _, ?_⟩)
    | (refine Goes.step rfl (fun w₁ h₁ => ?_); replace hF := hFr _ _ h₁ hF; clear h₁; rw [stepG_inBlock]; simp only [goes_go]; refine ⟨d0_none _, ?_⟩)
    | (refine Goes.step rfl (fun w₁ h₁ => ?_); replace hF := hFr _ _ h₁ hF; clear h₁; rw [stepG_region]; simp only [goes_go, List.size_toArray, List.length_cons, List.length_nil, Nat.reduceAdd, Nat.zero_add, List.range, List.range.loop]; refine ⟨d0_none _, ?_⟩)
    | (refine Goes.step rfl (fun w₁ h₁ => ?_); replace hF := hFr _ _ h₁ hF; clear h₁; rw [stepG_cond (t := true) rfl]; simp only [goes_go, if_true, if_false, Bool.false_eq_true, ↓reduceIte]; refine ⟨d0_none _, ?_⟩)
    | (refine Goes.step rfl (fun w₁ h₁ => ?_); replace hF := hFr _ _ h₁ hF; clear h₁; rw [stepG_cond (t := false) rfl]; simp only [goes_go, if_true, if_false, Bool.false_eq_true, ↓reduceIte]; refine ⟨d0_none _, ?_⟩)
    | (refine Goes.step rfl (fun w₁ h₁ => ?_); replace hF := hFr _ _ h₁ hF; clear h₁; rw [stepG_unwanted rfl rfl]; simp only [goes_go]; refine ⟨d0_none _, ?_⟩; walk_nrm)
    | (refine Goes.step rfl (fun w₁ h₁ => ?_); replace hF := hFr _ _ h₁ hF; clear h₁; rw [stepG_defer rfl rfl (by decide) rfl]; simp only [goes_go]; refine ⟨d0_none _, ?_⟩; walk_nrm)
    | (refine Goes.step rfl (fun w₁ h₁ => ?_); replace hF := hFr _ _ h₁ hF; clear h₁; rw [stepG_entry_pure (.bool false) rfl rfl (by decide) rfl wgLib.f_inBubble (x_inBubble_n link) (x_inBubble_b link) (x_inBubble_x link) (x_inBubble_f link)]; simp only [goes_go]; refine ⟨d0_none _, ?_⟩; walk_nrm)
    | (refine Goes.step rfl (fun w₁ h₁ => ?_); replace hF := hFr _ _ h₁ hF; clear h₁; refine goes_oper_k rfl rfl (by decide) (fun K hK => ?_); go_simp; try w_num
       refine hK _ _ ⟨d0_evs _ ?_, ?_⟩
       · intro e he; have hm := mem_listed he; simp [go_sem, *] at hm
       clear hK K; try walk_nrm))
  refine Goes.step rfl (fun w₁ h₁ => ?_); replace hF := hFr _ _ h₁ hF; clear h₁
  refine goes_call rfl rfl (by decide) rfl Try.func25 (by rfl) rfl ⟨d0_none _, ?_⟩
  walk_nrmf Try.f25
  repeat (first
    | (refine Goes.step rfl (fun w₁ h₁ => ?_); replace hF := hFr _ _ h₁ hF; clear h₁; rw [stepG_region_end]; simp only [goes_go]; refine ⟨d0_none _, ?_⟩)
    | (refine Goes.step rfl (fun w₁ h₁ => ?_); replace hF := hFr _ _ h₁ hF; clear h₁; rw [stepG_skip]; simp only [goes_go]; refine ⟨d0_none _, ?_⟩)
    | (refine Goes.step rfl (fun w₁ h₁ => ?_); replace hF := hFr _ _ h₁ hF; clear h₁; rw [stepG_seq]; simp only [goes_go]; refine ⟨d0_none _, ?_⟩)
    | (refine Goes.step rfl (fun w₁ h₁ => ?_); replace hF := hFr _ _ h₁ hF; clear h₁; rw [stepG_block]; simp only [goes_go]; refine ⟨d0_none _, ?_⟩)
    | (refine Goes.step rfl (fun w₁ h₁ => ?_); replace hF := hFr _ _ h₁ hF; clear h₁; rw [stepG_inBlock]; simp only [goes_go]; refine ⟨d0_none _, ?_⟩)
    | (refine Goes.step rfl (fun w₁ h₁ => ?_); replace hF := hFr _ _ h₁ hF; clear h₁; rw [stepG_region]; simp only [goes_go, List.size_toArray, List.length_cons, List.length_nil, Nat.reduceAdd, Nat.zero_add, List.range, List.range.loop]; refine ⟨d0_none _, ?_⟩)
    | (refine Goes.step rfl (fun w₁ h₁ => ?_); replace hF := hFr _ _ h₁ hF; clear h₁; rw [stepG_cond (t := true) rfl]; simp only [goes_go, if_true, if_false, Bool.false_eq_true, ↓reduceIte]; refine ⟨d0_none _, ?_⟩)
    | (refine Goes.step rfl (fun w₁ h₁ => ?_); replace hF := hFr _ _ h₁ hF; clear h₁; rw [stepG_cond (t := false) rfl]; simp only [goes_go, if_true, if_false, Bool.false_eq_true, ↓reduceIte]; refine ⟨d0_none _, ?_⟩)
    | (refine Goes.step rfl (fun w₁ h₁ => ?_); replace hF := hFr _ _ h₁ hF; clear h₁; rw [stepG_unwanted rfl rfl]; simp only [goes_go]; refine ⟨d0_none _, ?_⟩; walk_nrm)
    | (refine Goes.step rfl (fun w₁ h₁ => ?_); replace hF := hFr _ _ h₁ hF; clear h₁; rw [stepG_defer rfl rfl (by decide) rfl]; simp only [goes_go]; refine ⟨d0_none _, ?_⟩; walk_nrm)
    | (refine Goes.step rfl (fun w₁ h₁ => ?_); replace hF := hFr _ _ h₁ hF; clear h₁; rw [stepG_entry_pure (.bool false) rfl rfl (by decide) rfl wgLib.f_inBubble (x_inBubble_n link) (x_inBubble_b link) (x_inBubble_x link) (x_inBubble_f link)]; simp only [goes_go]; refine ⟨d0_none _, ?_⟩; walk_nrm)
    | (refine Goes.step rfl (fun w₁ h₁ => ?_); replace hF := hFr _ _ h₁ hF; clear h₁; refine goes_oper_k rfl rfl (by decide) (fun K hK => ?_); go_simp; try w_num
       refine hK _ _ ⟨d0_evs _ ?_, ?_⟩
       · intro e he; have hm := mem_listed he; simp [go_sem, *] at hm
       clear hK K; try walk_nrm))
  refine Goes.stop (fun w₁ h₁ => ?_)
  replace hF := hFr _ _ h₁ hF
  clear h₁
  refine ⟨rfl, _, stepG_mark0 .disable (by simp) rfl rfl (by decide) rfl wgLib.f_disable (x_disable_n link) (x_disable_b link) (x_disable_x link) (x_disable_f link), 10, ?_⟩
  walk_nrm
  show Goes Try.prog true (AsideM (mcfg I S b B) I.ps.length) (D0 (mcfg I S b B) I.ps.length) _ _ _ _
  repeat (first
    | (refine Goes.step rfl (fun w₁ h₁ => ?_); replace hF := hFr _ _ h₁ hF; clear h₁; rw [stepG_region_end]; simp only [goes_go]; refine ⟨d0_none _, ?_⟩)
    | (refine Goes.step rfl (fun w₁ h₁ => ?_); replace hF := hFr _ _ h₁ hF; clear h₁; rw [stepG_skip]; simp only [goes_go]; refine ⟨d0_none _, ?_⟩)
    | (refine Goes.step rfl (fun w₁ h₁ => ?_); replace hF := hFr _ _ h₁ hF; clear h₁; rw [stepG_seq]; simp only [goes_go]; refine ⟨d0_none _, ?_⟩)
    | (refine Goes.step rfl (fun w₁ h₁ => ?_); replace hF := hFr _ _ h₁ hF; clear h₁; rw [stepG_block]; simp only [goes_go]; refine ⟨d0_none _, ?_⟩)
    | (refine Goes.step rfl (fun w₁ h₁ => ?_); replace hF := hFr _ _ h₁ hF; clear h₁; rw [stepG_inBlock]; simp only [goes_go]; refine ⟨d0_none _, ?_⟩)
    | (refine Goes.step rfl (fun w₁ h₁ => ?_); replace hF := hFr _ _ h₁ hF; clear h₁; rw [stepG_region]; simp only [goes_go, List.size_toArray, List.length_cons, List.length_nil, Nat.reduceAdd, Nat.zero_add, List.range, List.range.loop]; refine ⟨d0_none _, ?_⟩)
    | (refine Goes.step rfl (fun w₁ h₁ => ?_); replace hF := hFr _ _ h₁ hF; clear h₁; rw [stepG_cond (t := true) rfl]; simp only [goes_go, if_true, if_false, Bool.false_eq_true, ↓reduceIte]; refine ⟨d0_none _, ?_⟩)
    | (refine Goes.step rfl (fun w₁ h₁ => ?_); replace hF := hFr _ _ h₁ hF; clear h₁; rw [stepG_cond (t := false) rfl]; simp only [goes_go, if_true, if_false, Bool.false_eq_true, ↓reduceIte]; refine ⟨d0_none _, ?_⟩)
    | (refine Goes.step rfl (fun w₁ h₁ => ?_); replace hF := hFr _ _ h₁ hF; clear h₁; rw [stepG_unwanted rfl rfl]; simp only [goes_go]; refine ⟨d0_none _, ?_⟩; walk_nrm)
    | (refine Goes.step rfl (fun w₁ h₁ => ?_); replace hF := hFr _ _ h₁ hF; clear h₁; rw [stepG_defer rfl rfl (by decide) rfl]; simp only [goes_go]; refine ⟨d0_none _, ?_⟩; walk_nrm)
    | (refine Goes.step rfl (fun w₁ h₁ => ?_); replace hF := hFr _ _ h₁ hF; clear h₁; rw [stepG_entry_pure (.bool false) rfl rfl (by decide) rfl wgLib.f_inBubble (x_inBubble_n link) (x_inBubble_b link) (x_inBubble_x link) (x_inBubble_f link)]; simp only [goes_go]; refine ⟨d0_none _, ?_⟩; walk_nrm)
    | (refine Goes.step rfl (fun w₁ h₁ => ?_); replace hF := hFr _ _ h₁ hF; clear h₁; refine goes_oper_k rfl rfl (by decide) (fun K hK => ?_); go_simp; try w_num
       refine hK _ _ ⟨d0_evs _ ?_, ?_⟩
       · intro e he; have hm := mem_listed he; simp [go_sem, *] at hm
       clear hK K; try walk_nrm))
  refine Goes.step rfl (fun w₁ h₁ => ?_); replace hF := hFr _ _ h₁ hF; clear h₁; rw [stepG_loop]; simp only [goes_go]; refine ⟨d0_none _, ?_⟩
  exact Goes.stop fun w₂ h₂ => H.out _ _ ⟨_, _, _, _, _, _, _, _, _, _, _, _, _, _, _, _, _, _, _, _, _, _, _, _, _, _, _, _, _, _, _, _, _, _, _, _, _, _, _, _, _, _, _, _, _, _, _, _, _, _, _, _, _, _, _, _, _, _, _, _, _, _, _, _, _, _, hFr _ _ h₂ hF, _, _, _, _, _, _, _, _, _, _, _, _, _, _, _, _, _, _, _, _, _, _, _, _, _, _, _, _, _, _, _, _, _, _, _, _, _, _, _, _, _, _, _, _, _, _, _, _, _, _, _, _, _, _, _, _, _, _, _, _, _, _, _, _, _, _, _, _, _, _, _, _, _, _, _, _, _, _, _, _, _, _, _, rfl⟩
end
end Go.Proofs.Ytdpagejckahkkaa.Net
