/- crew.Relay: goroutine 0's own walk, on: the chain is started and emptied. -/
import Derived.Test.YtdpagejckahkkaaRelay
set_option linter.unusedSimpArgs false
set_option linter.unusedVariables false
namespace Go.Proofs.Ytdpagejckahkkaa.Net
open Go Go.Conc Go.RowKit

section
variable {C : Cfg} {m : Nat}
theorem dm_none (w : World) : DM C m w w #[] := ⟨id, fun _ _ => rfl, by simp⟩
theorem dm_still (w : World) {es : Array Event} (h : ∀ e ∈ es, EvM C.Shun C.Still C.B e) : DM C m w w es := ⟨id, fun _ _ => rfl, h⟩
theorem evM_read {Shun Still : Loc → Prop} {B : Nat} (a : Addr) (h : ¬ Shun (.cell a)) (hB : a.block < B) : EvM Shun Still B ⟨.cell a, false, false⟩ :=
  ⟨fun x hx => by simp only [ofEvent_cell0, MemAct.touch?, Option.some.injEq] at hx; subst hx; exact ⟨fun hs => absurd hs h, fun _ => rfl⟩, by simp, by simp, by rw [ofEvent_cell0]; exact hB⟩
end

/-- What goroutine 0 knows when it has made i channels for the hands. -/
structure G0 (I : RIn) (i : Nat) (w : World) : Prop where
  kr : KR I.W I.W.heap.size I.a0 I.vs.length I.cap w
  size : w.heap.size = I.W.heap.size + 3 + i
theorem G0.rely {I : RIn} {i m : Nat} {w w₁ : World} (h : G0 I i w) (r : AsideN (cN I.W.heap.size) m w w₁) : G0 I i w₁ := ⟨h.kr.aside r, r.size.trans h.size⟩
/-- .. and the last of them is new. -/
structure G1 (I : RIn) (i : Nat) (w : World) : Prop where
  g : G0 I (i + 1) w
  ch : w.heap[cN I.W.heap.size (i + 1)]? = some (.chan 0 #[] false 0 0 false)
theorem cN_inj {N p q : Nat} (e : cN N p = cN N q) : p = q := by unfold cN at e; split at e <;> split at e <;> omega
theorem G1.rely {I : RIn} {i : Nat} {w w₁ : World} (h : G1 I i w) (r : AsideN (cN I.W.heap.size) (i + 1) w w₁) : G1 I i w₁ :=
  ⟨h.g.rely r, (r.block _ fun p hp e => by have := cN_inj e; omega).trans h.ch⟩
theorem KR.alloc {W : World} {N : Nat} {a0 : Option Addr} {len cap : Nat} {w : World} (h : KR W N a0 len cap w) (o : Obj) (hs : N + 3 ≤ w.heap.size) : KR W N a0 len cap (w.alloc o) :=
  ⟨h.low.alloc (by omega) _, by rw [World.cell?_alloc_past _ _ _ (by omega)]; exact h.box, by rw [World.cell?_alloc_past _ _ _ (by omega)]; exact h.fst⟩

section
variable (I : RIn) (cs : List Frame)

noncomputable def gHead (i : Nat) (j3 j4 j7 j8 j9 j10 j11 j12 j13 j14 j15 j16 j17 j21 j22 j23 j24 j25 j26 j27 j28 j29 j30 j31 j32 j33 j34 j35 j36 j37 j38 : Value) : Goroutine :=
  G ((base 8).at ⟨#[.slice I.a0 I.vs.length I.cap, .slice I.a1 I.ys.length I.cap1, .pointer (some ⟨I.W.heap.size, 0, none⟩), j3, j4, .pointer (some ⟨I.W.heap.size + 2, 0, none⟩), .chan (some (cN I.W.heap.size i)), j7, j8, j9, j10, j11, j12, j13, j14, j15, j16, j17, .slice I.a1 I.ys.length I.cap1, num I.ys.length, num i, j21, j22, j23, j24, j25, j26, j27, j28, j29, j30, j31, j32, j33, j34, j35, j36, j37, j38], []⟩ [.code L8a, .inLoop L8a, .inBlock 0, .code (tail8 6)]) cs

noncomputable def gWent0  (j3 j4 j6 j7 j8 j9 j10 j11 j12 j13 j14 j15 j16 j17 j18 j19 j20 j21 j22 j23 j24 j25 j26 j27 j28 j29 j30 j31 j32 j33 j34 j35 j36 j37 j38 : Value) : Goroutine :=
  G ((base 8).at ⟨#[.slice I.a0 I.vs.length I.cap, .slice I.a1 I.ys.length I.cap1, .pointer (some ⟨I.W.heap.size, 0, none⟩), j3, j4, .pointer (some ⟨I.W.heap.size + 2, 0, none⟩), j6, j7, j8, j9, j10, j11, j12, j13, j14, j15, j16, j17, j18, j19, j20, j21, j22, j23, j24, j25, j26, j27, j28, j29, j30, j31, j32, j33, j34, j35, j36, j37, j38], []⟩ [.inRegion ops8go [], .code (tail8 4)]) cs

noncomputable def gGo (i : Nat) (v : Int) (j3 j4 j7 j8 j10 j11 j12 j13 j14 j15 j16 j17 j21 j22 j23 j24 j28 j29 j30 j31 j32 j33 j34 j35 j36 j37 j38 : Value) : Goroutine :=
  G ((base 8).at ⟨#[.slice I.a0 I.vs.length I.cap, .slice I.a1 I.ys.length I.cap1, .pointer (some ⟨I.W.heap.size, 0, none⟩), j3, j4, .pointer (some ⟨I.W.heap.size + 2, 0, none⟩), .chan (some (cN I.W.heap.size i)), j7, j8, .chan (some (cN I.W.heap.size (i + 1))), j10, j11, j12, j13, j14, j15, j16, j17, .slice I.a1 I.ys.length I.cap1, num I.ys.length, num i, j21, j22, j23, j24, num v, .chan (some (cN I.W.heap.size i)), .chan (some (cN I.W.heap.size (i + 1))), j28, j29, j30, j31, j32, j33, j34, j35, j36, j37, j38], []⟩ [.inRegion ops8go2 [3], .code last8a, .inBlock 1, .code post8a, .inLoop L8a, .inBlock 0, .code (tail8 6)]) cs

noncomputable def gWent (i : Nat) (j3 j4 j6 j7 j8 j10 j11 j12 j13 j14 j15 j16 j17 j21 j22 j23 j24 j25 j26 j27 j28 j29 j30 j31 j32 j33 j34 j35 j36 j37 j38 : Value) : Goroutine :=
  G ((base 8).at ⟨#[.slice I.a0 I.vs.length I.cap, .slice I.a1 I.ys.length I.cap1, .pointer (some ⟨I.W.heap.size, 0, none⟩), j3, j4, .pointer (some ⟨I.W.heap.size + 2, 0, none⟩), j6, j7, j8, .chan (some (cN I.W.heap.size (i + 1))), j10, j11, j12, j13, j14, j15, j16, j17, .slice I.a1 I.ys.length I.cap1, num I.ys.length, num i, j21, j22, j23, j24, j25, j26, j27, j28, j29, j30, j31, j32, j33, j34, j35, j36, j37, j38], []⟩ [.inRegion ops8go2 [], .code last8a, .inBlock 1, .code post8a, .inLoop L8a, .inBlock 0, .code (tail8 6)]) cs

noncomputable def gRecv (out : Value) (j3 j4 j6 j7 j8 j9 j11 j12 j13 j14 j15 j16 j17 j18 j19 j20 j21 j22 j23 j24 j25 j26 j27 j28 j29 j31 j32 j33 j34 j35 j36 j37 j38 : Value) : Goroutine :=
  G ((base 8).at ⟨#[.slice I.a0 I.vs.length I.cap, .slice I.a1 I.ys.length I.cap1, .pointer (some ⟨I.W.heap.size, 0, none⟩), j3, j4, .pointer (some ⟨I.W.heap.size + 2, 0, none⟩), j6, j7, j8, j9, out, j11, j12, j13, j14, j15, j16, j17, j18, j19, j20, j21, j22, j23, j24, j25, j26, j27, j28, j29, .chan (some (cN I.W.heap.size I.ys.length)), j31, j32, j33, j34, j35, j36, j37, j38], []⟩ [.inRegion ops8r [0, 1], .code rest8b, .inLoop L8b, .inBlock 2, .code (tail8 8)]) cs

noncomputable def gGot (out r : Value) (j3 j4 j6 j7 j8 j9 j11 j12 j13 j14 j15 j16 j17 j18 j19 j20 j21 j22 j23 j24 j25 j26 j27 j28 j29 j32 j33 j34 j35 j36 j37 j38 : Value) : Goroutine :=
  G ((base 8).at ⟨#[.slice I.a0 I.vs.length I.cap, .slice I.a1 I.ys.length I.cap1, .pointer (some ⟨I.W.heap.size, 0, none⟩), j3, j4, .pointer (some ⟨I.W.heap.size + 2, 0, none⟩), j6, j7, j8, j9, out, j11, j12, j13, j14, j15, j16, j17, j18, j19, j20, j21, j22, j23, j24, j25, j26, j27, j28, j29, .chan (some (cN I.W.heap.size I.ys.length)), r, j32, j33, j34, j35, j36, j37, j38], []⟩ [.inRegion ops8r [1], .code rest8b, .inLoop L8b, .inBlock 2, .code (tail8 8)]) cs


variable {S : Loc → Prop} {b B m : Nat} {Stop : Goroutine → World → Prop}

set_option maxRecDepth 100000 in
theorem went_goes (n i : Nat) (hi : i < I.ys.length) (hl : I.ys.length ≤ 64) (h : ∀ j3 j4 j7 j8 j9 j10 j11 j12 j13 j14 j15 j16 j17 j21 j22 j23 j24 j25 j26 j27 j28 j29 j30 j31 j32 j33 j34 j35 j36 j37 j38 w, G0 I (i + 1) w → Goes Try.prog true (AsideN (cN I.W.heap.size) m) (DM (relay I S b B) m) Stop n (gHead I cs (i + 1) j3 j4 j7 j8 j9 j10 j11 j12 j13 j14 j15 j16 j17 j21 j22 j23 j24 j25 j26 j27 j28 j29 j30 j31 j32 j33 j34 j35 j36 j37 j38) w) (j3 j4 j6 j7 j8 j10 j11 j12 j13 j14 j15 j16 j17 j21 j22 j23 j24 j25 j26 j27 j28 j29 j30 j31 j32 j33 j34 j35 j36 j37 j38 : Value) (w : World) (hF : G0 I (i + 1) w) :
    Goes Try.prog true (AsideN (cN I.W.heap.size) m) (DM (relay I S b B) m) Stop (n + 11) (gWent I cs i j3 j4 j6 j7 j8 j10 j11 j12 j13 j14 j15 j16 j17 j21 j22 j23 j24 j25 j26 j27 j28 j29 j30 j31 j32 j33 j34 j35 j36 j37 j38) w := by
  have e : IntKind.i64.wrap ((i : Int) + 1) = ((i + 1 : Nat) : Int) := by rw [IntKind.wrap_i64]; omega
  simp only [gHead, gWent, last8a, post8a, in8a, ops8go2, L8a, tail8, body8, Try.f8, Option.getD_some, num] at h ⊢
  refine Goes.step rfl (fun w₁ h₁ => ?_); rw [stepG_region_end]; simp only [goes_go]; refine ⟨dm_none _, ?_⟩; replace hF := hF.rely h₁; clear h₁
  refine Goes.step rfl (fun w₁ h₁ => ?_); rw [stepG_region]; simp only [goes_go, List.size_toArray, List.length_cons, List.length_nil, Nat.reduceAdd, Nat.zero_add, List.range, List.range.loop]; refine ⟨dm_none _, ?_⟩; replace hF := hF.rely h₁; clear h₁
  refine Goes.step rfl (fun w₁ h₁ => ?_); replace hF := hF.rely h₁; clear h₁; refine goes_oper_k rfl rfl (by decide) (fun K hK => ?_); go_simp; refine hK _ _ ⟨dm_still _ (fun e he => by (have hm := mem_listed he; simp [go_sem, *] at hm)), ?_⟩; clear hK K; try walk_nrm
  refine Goes.step rfl (fun w₁ h₁ => ?_); replace hF := hF.rely h₁; clear h₁; refine goes_oper_k rfl rfl (by decide) (fun K hK => ?_); go_simp; refine hK _ _ ⟨dm_still _ (fun e he => by (have hm := mem_listed he; simp [go_sem, *] at hm)), ?_⟩; clear hK K; try walk_nrm
  refine Goes.step rfl (fun w₁ h₁ => ?_); rw [stepG_region_end]; simp only [goes_go]; refine ⟨dm_none _, ?_⟩; replace hF := hF.rely h₁; clear h₁
  refine Goes.step rfl (fun w₁ h₁ => ?_); rw [stepG_inBlock]; simp only [goes_go]; refine ⟨dm_none _, ?_⟩; replace hF := hF.rely h₁; clear h₁
  refine Goes.step rfl (fun w₁ h₁ => ?_); rw [stepG_region]; simp only [goes_go, List.size_toArray, List.length_cons, List.length_nil, Nat.reduceAdd, Nat.zero_add, List.range, List.range.loop]; refine ⟨dm_none _, ?_⟩; replace hF := hF.rely h₁; clear h₁
  refine Goes.step rfl (fun w₁ h₁ => ?_); replace hF := hF.rely h₁; clear h₁; refine goes_oper_k rfl rfl (by decide) (fun K hK => ?_); go_simp; refine hK _ _ ⟨dm_still _ (fun e he => by (have hm := mem_listed he; simp [go_sem, *] at hm)), ?_⟩; clear hK K; try walk_nrm
  refine Goes.step rfl (fun w₁ h₁ => ?_); replace hF := hF.rely h₁; clear h₁; refine goes_oper_k rfl rfl (by decide) (fun K hK => ?_); go_simp; refine hK _ _ ⟨dm_still _ (fun e he => by (have hm := mem_listed he; simp [go_sem, *] at hm)), ?_⟩; clear hK K; try walk_nrm
  refine Goes.step rfl (fun w₁ h₁ => ?_); rw [stepG_region_end]; simp only [goes_go]; refine ⟨dm_none _, ?_⟩; replace hF := hF.rely h₁; clear h₁
  refine Goes.step rfl (fun w₁ h₁ => ?_); rw [stepG_inLoop]; simp only [goes_go]; refine ⟨dm_none _, ?_⟩; replace hF := hF.rely h₁; clear h₁
  exact h _ _ _ _ _ _ _ _ _ _ _ _ _ _ _ _ _ _ _ _ _ _ _ _ _ _ _ _ _ _ _ _ hF

set_option maxRecDepth 100000 in
theorem went0_goes (hI : I.Ok S) (hB : I.W.heap.size + 4 ≤ B) (n : Nat) (h : ∀ j3 j4 j7 j8 j9 j10 j11 j12 j13 j14 j15 j16 j17 j21 j22 j23 j24 j25 j26 j27 j28 j29 j30 j31 j32 j33 j34 j35 j36 j37 j38 w, G0 I 0 w → Goes Try.prog true (AsideN (cN I.W.heap.size) m) (DM (relay I S b B) m) Stop n (gHead I cs 0 j3 j4 j7 j8 j9 j10 j11 j12 j13 j14 j15 j16 j17 j21 j22 j23 j24 j25 j26 j27 j28 j29 j30 j31 j32 j33 j34 j35 j36 j37 j38) w) (j3 j4 j6 j7 j8 j9 j10 j11 j12 j13 j14 j15 j16 j17 j18 j19 j20 j21 j22 j23 j24 j25 j26 j27 j28 j29 j30 j31 j32 j33 j34 j35 j36 j37 j38 : Value) (w : World) (hF : G0 I 0 w) :
    Goes Try.prog true (AsideN (cN I.W.heap.size) m) (DM (relay I S b B) m) Stop (n + 15) (gWent0 I cs j3 j4 j6 j7 j8 j9 j10 j11 j12 j13 j14 j15 j16 j17 j18 j19 j20 j21 j22 j23 j24 j25 j26 j27 j28 j29 j30 j31 j32 j33 j34 j35 j36 j37 j38) w := by
  have new : ∀ x : Addr, I.W.heap.size ≤ x.block → ¬ S (.cell x) := fun x hx hs => by have : x.block < I.W.heap.size := hI.new _ hs; omega
  simp only [gHead, gWent0, ops8go, L8a, tail8, body8, Try.f8, Option.getD_some, num] at h ⊢
  refine Goes.step rfl (fun w₁ h₁ => ?_); rw [stepG_region_end]; simp only [goes_go]; refine ⟨dm_none _, ?_⟩; replace hF := hF.rely h₁; clear h₁
  refine Goes.step rfl (fun w₁ h₁ => ?_); rw [stepG_seq]; simp only [goes_go]; refine ⟨dm_none _, ?_⟩; replace hF := hF.rely h₁; clear h₁
  refine Goes.step rfl (fun w₁ h₁ => ?_); rw [stepG_region]; simp only [goes_go, List.size_toArray, List.length_cons, List.length_nil, Nat.reduceAdd, Nat.zero_add, List.range, List.range.loop]; refine ⟨dm_none _, ?_⟩; replace hF := hF.rely h₁; clear h₁
  refine Goes.step rfl (fun w₁ h₁ => ?_); replace hF := hF.rely h₁; clear h₁
  have hc := hF.kr.fst
  refine goes_oper_k rfl rfl (by decide) (fun K hK => ?_); go_simp
  refine hK _ _ ⟨dm_still _ (fun e he => by (have hm := mem_listed he; simp [go_sem, *] at hm; subst hm; exact evM_read _ (new _ (by simp)) (by show I.W.heap.size + 2 < B; omega))), ?_⟩; clear hK K hc; try walk_nrm
  refine Goes.step rfl (fun w₁ h₁ => ?_); replace hF := hF.rely h₁; clear h₁; refine goes_oper_k rfl rfl (by decide) (fun K hK => ?_); go_simp; refine hK _ _ ⟨dm_still _ (fun e he => by (have hm := mem_listed he; simp [go_sem, *] at hm)), ?_⟩; clear hK K; try walk_nrm
  refine Goes.step rfl (fun w₁ h₁ => ?_); rw [stepG_region_end]; simp only [goes_go]; refine ⟨dm_none _, ?_⟩; replace hF := hF.rely h₁; clear h₁
  refine Goes.step rfl (fun w₁ h₁ => ?_); rw [stepG_seq]; simp only [goes_go]; refine ⟨dm_none _, ?_⟩; replace hF := hF.rely h₁; clear h₁
  refine Goes.step rfl (fun w₁ h₁ => ?_); rw [stepG_seq]; simp only [goes_go]; refine ⟨dm_none _, ?_⟩; replace hF := hF.rely h₁; clear h₁
  refine Goes.step rfl (fun w₁ h₁ => ?_); rw [stepG_region]; simp only [goes_go, List.size_toArray, List.length_cons, List.length_nil, Nat.reduceAdd, Nat.zero_add, List.range, List.range.loop]; refine ⟨dm_none _, ?_⟩; replace hF := hF.rely h₁; clear h₁
  refine Goes.step rfl (fun w₁ h₁ => ?_); replace hF := hF.rely h₁; clear h₁; refine goes_oper_k rfl rfl (by decide) (fun K hK => ?_); go_simp; refine hK _ _ ⟨dm_still _ (fun e he => by (have hm := mem_listed he; simp [go_sem, *] at hm)), ?_⟩; clear hK K; try walk_nrm
  refine Goes.step rfl (fun w₁ h₁ => ?_); replace hF := hF.rely h₁; clear h₁; refine goes_oper_k rfl rfl (by decide) (fun K hK => ?_); go_simp; refine hK _ _ ⟨dm_still _ (fun e he => by (have hm := mem_listed he; simp [go_sem, *] at hm)), ?_⟩; clear hK K; try walk_nrm
  refine Goes.step rfl (fun w₁ h₁ => ?_); replace hF := hF.rely h₁; clear h₁; refine goes_oper_k rfl rfl (by decide) (fun K hK => ?_); go_simp; refine hK _ _ ⟨dm_still _ (fun e he => by (have hm := mem_listed he; simp [go_sem, *] at hm)), ?_⟩; clear hK K; try walk_nrm
  refine Goes.step rfl (fun w₁ h₁ => ?_); rw [stepG_region_end]; simp only [goes_go]; refine ⟨dm_none _, ?_⟩; replace hF := hF.rely h₁; clear h₁
  refine Goes.step rfl (fun w₁ h₁ => ?_); rw [stepG_block]; simp only [goes_go]; refine ⟨dm_none _, ?_⟩; replace hF := hF.rely h₁; clear h₁
  refine Goes.step rfl (fun w₁ h₁ => ?_); rw [stepG_loop]; simp only [goes_go]; refine ⟨dm_none _, ?_⟩; replace hF := hF.rely h₁; clear h₁
  exact h _ _ _ _ _ _ _ _ _ _ _ _ _ _ _ _ _ _ _ _ _ _ _ _ _ _ _ _ _ _ _ _ hF

set_option maxRecDepth 100000 in
theorem head_go (hI : I.Ok S) (hB : I.W.heap.size + 4 ≤ B) (hl : I.ys.length ≤ 64) (i : Nat) (hm : m = i + 1) (v : Int) (hv : I.ys[i]? = some v) (h : ∀ j3 j4 j7 j8 j10 j11 j12 j13 j14 j15 j16 j17 j21 j22 j23 j24 j28 j29 j30 j31 j32 j33 j34 j35 j36 j37 j38 w, G1 I i w → Stop (gGo I cs i v j3 j4 j7 j8 j10 j11 j12 j13 j14 j15 j16 j17 j21 j22 j23 j24 j28 j29 j30 j31 j32 j33 j34 j35 j36 j37 j38) w) (j3 j4 j7 j8 j9 j10 j11 j12 j13 j14 j15 j16 j17 j21 j22 j23 j24 j25 j26 j27 j28 j29 j30 j31 j32 j33 j34 j35 j36 j37 j38 : Value) (w : World) (hF : G0 I i w) :
    Goes Try.prog true (AsideN (cN I.W.heap.size) m) (DM (relay I S b B) m) Stop 40 (gHead I cs i j3 j4 j7 j8 j9 j10 j11 j12 j13 j14 j15 j16 j17 j21 j22 j23 j24 j25 j26 j27 j28 j29 j30 j31 j32 j33 j34 j35 j36 j37 j38) w := by
  subst hm
  obtain ⟨hi, _⟩ := List.getElem?_eq_some_iff.1 hv
  obtain ⟨ad, ha, hel⟩ := hI.a i v hv
  obtain ⟨hab, haS⟩ := hI.aa ad ha
  simp only [gHead, gGo, last8a, post8a, in8a, ops8go2, L8a, tail8, body8, Try.f8, Option.getD_some, num, ha] at h ⊢
  refine Goes.step rfl (fun w₁ h₁ => ?_); rw [stepG_seq]; simp only [goes_go]; refine ⟨dm_none _, ?_⟩; replace hF := hF.rely h₁; clear h₁
  refine Goes.step rfl (fun w₁ h₁ => ?_); rw [stepG_region]; simp only [goes_go, List.size_toArray, List.length_cons, List.length_nil, Nat.reduceAdd, Nat.zero_add, List.range, List.range.loop]; refine ⟨dm_none _, ?_⟩; replace hF := hF.rely h₁; clear h₁
  refine Goes.step rfl (fun w₁ h₁ => ?_); replace hF := hF.rely h₁; clear h₁; refine goes_oper_k rfl rfl (by decide) (fun K hK => ?_); go_simp; refine hK _ _ ⟨dm_still _ (fun e he => by (have hm := mem_listed he; simp [go_sem, *] at hm)), ?_⟩; clear hK K; try walk_nrm
  refine Goes.step rfl (fun w₁ h₁ => ?_); rw [stepG_region_end]; simp only [goes_go]; refine ⟨dm_none _, ?_⟩; replace hF := hF.rely h₁; clear h₁
  refine Goes.step rfl (fun w₁ h₁ => ?_); rw [stepG_seq]; simp only [goes_go]; refine ⟨dm_none _, ?_⟩; replace hF := hF.rely h₁; clear h₁
  refine Goes.step rfl (fun w₁ h₁ => ?_); rw [stepG_cond (t := true) (by simp [Act.eval, hi])]; simp only [goes_go, if_true, if_false, Bool.false_eq_true, ↓reduceIte]; refine ⟨dm_none _, ?_⟩; replace hF := hF.rely h₁; clear h₁
  refine Goes.step rfl (fun w₁ h₁ => ?_); rw [stepG_skip]; simp only [goes_go]; refine ⟨dm_none _, ?_⟩; replace hF := hF.rely h₁; clear h₁
  refine Goes.step rfl (fun w₁ h₁ => ?_); rw [stepG_seq]; simp only [goes_go]; refine ⟨dm_none _, ?_⟩; replace hF := hF.rely h₁; clear h₁
  refine Goes.step rfl (fun w₁ h₁ => ?_); rw [stepG_block]; simp only [goes_go]; refine ⟨dm_none _, ?_⟩; replace hF := hF.rely h₁; clear h₁
  refine Goes.step rfl (fun w₁ h₁ => ?_); rw [stepG_seq]; simp only [goes_go]; refine ⟨dm_none _, ?_⟩; replace hF := hF.rely h₁; clear h₁
  refine Goes.step rfl (fun w₁ h₁ => ?_); rw [stepG_region]; simp only [goes_go, List.size_toArray, List.length_cons, List.length_nil, Nat.reduceAdd, Nat.zero_add, List.range, List.range.loop]; refine ⟨dm_none _, ?_⟩; replace hF := hF.rely h₁; clear h₁
  refine Goes.step rfl (fun w₁ h₁ => ?_); replace hF := hF.rely h₁; clear h₁; refine goes_oper_k rfl rfl (by decide) (fun K hK => ?_); go_simp; refine hK _ _ ⟨dm_still _ (fun e he => by (have hm := mem_listed he; simp [go_sem, *] at hm)), ?_⟩; clear hK K; try walk_nrm
  refine Goes.step rfl (fun w₁ h₁ => ?_); replace hF := hF.rely h₁; clear h₁
  have hc : w₁.cell? (ad.add i) = some (.int .i64 v) := by rw [hF.kr.low.cell (by rw [addBlk]; exact hab)]; exact hel
  refine goes_oper_k rfl rfl (by decide) (fun K hK => ?_); go_simp
  refine hK _ _ ⟨dm_still _ (fun e he => by (have hm := mem_listed he; simp [go_sem, *] at hm; subst hm; exact evM_read _ (haS _ (addBlk _ _)) (by rw [addBlk]; show _ < B; omega))), ?_⟩; clear hK K hc; try walk_nrm
  refine Goes.step rfl (fun w₁ h₁ => ?_); replace hF := hF.rely h₁; clear h₁; refine goes_oper_k rfl rfl (by decide) (fun K hK => ?_); go_simp; refine hK _ _ ⟨dm_still _ (fun e he => by (have hm := mem_listed he; simp [go_sem, *] at hm)), ?_⟩; clear hK K; try walk_nrm
  refine Goes.step rfl (fun w₁ h₁ => ?_); rw [stepG_region_end]; simp only [goes_go]; refine ⟨dm_none _, ?_⟩; replace hF := hF.rely h₁; clear h₁
  refine Goes.step rfl (fun w₁ h₁ => ?_); rw [stepG_seq]; simp only [goes_go]; refine ⟨dm_none _, ?_⟩; replace hF := hF.rely h₁; clear h₁
  refine Goes.step rfl (fun w₁ h₁ => ?_); rw [stepG_region]; simp only [goes_go, List.size_toArray, List.length_cons, List.length_nil, Nat.reduceAdd, Nat.zero_add, List.range, List.range.loop]; refine ⟨dm_none _, ?_⟩; replace hF := hF.rely h₁; clear h₁
  refine Goes.step rfl (fun w₁ h₁ => ?_); replace hF := hF.rely h₁; clear h₁
  have hmc := mk0 w₁
  have hme := mk0e w₁
  have e : w₁.heap.size = cN I.W.heap.size (i + 1) := by rw [hF.size, cN_succ]
  have hF1 : G1 I i (w₁.alloc (.chan 0 #[] false 0 0 false)) := ⟨⟨hF.kr.alloc _ (by rw [hF.size]; omega), by rw [World.size_alloc, hF.size]; omega⟩, by rw [← e]; exact heap_alloc_new _ _⟩
  refine goes_oper_k rfl rfl (by decide) (fun K hK => ?_); go_simp
  refine hK _ _ ⟨⟨fun k => KR.alloc k _ (by rw [hF.size]; omega), fun p hp => heap_alloc_old _ _ _ (by rw [hF.size]; show cN I.W.heap.size p < _; unfold cN; split <;> omega), fun e he => by (have hm := mem_listed he; simp [go_sem, *] at hm)⟩, ?_⟩
  clear hK K hmc hme; try walk_nrm
  try rw [e]
  clear e
  replace hF := hF1
  clear hF1
  refine Goes.step rfl (fun w₁ h₁ => ?_); replace hF := hF.rely h₁; clear h₁; refine goes_oper_k rfl rfl (by decide) (fun K hK => ?_); go_simp; refine hK _ _ ⟨dm_still _ (fun e he => by (have hm := mem_listed he; simp [go_sem, *] at hm)), ?_⟩; clear hK K; try walk_nrm
  refine Goes.step rfl (fun w₁ h₁ => ?_); rw [stepG_region_end]; simp only [goes_go]; refine ⟨dm_none _, ?_⟩; replace hF := hF.rely h₁; clear h₁
  refine Goes.step rfl (fun w₁ h₁ => ?_); rw [stepG_seq]; simp only [goes_go]; refine ⟨dm_none _, ?_⟩; replace hF := hF.rely h₁; clear h₁
  refine Goes.step rfl (fun w₁ h₁ => ?_); rw [stepG_region]; simp only [goes_go, List.size_toArray, List.length_cons, List.length_nil, Nat.reduceAdd, Nat.zero_add, List.range, List.range.loop]; refine ⟨dm_none _, ?_⟩; replace hF := hF.rely h₁; clear h₁
  refine Goes.step rfl (fun w₁ h₁ => ?_); replace hF := hF.rely h₁; clear h₁; refine goes_oper_k rfl rfl (by decide) (fun K hK => ?_); go_simp; refine hK _ _ ⟨dm_still _ (fun e he => by (have hm := mem_listed he; simp [go_sem, *] at hm)), ?_⟩; clear hK K; try walk_nrm
  refine Goes.step rfl (fun w₁ h₁ => ?_); replace hF := hF.rely h₁; clear h₁; refine goes_oper_k rfl rfl (by decide) (fun K hK => ?_); go_simp; refine hK _ _ ⟨dm_still _ (fun e he => by (have hm := mem_listed he; simp [go_sem, *] at hm)), ?_⟩; clear hK K; try walk_nrm
  refine Goes.step rfl (fun w₁ h₁ => ?_); replace hF := hF.rely h₁; clear h₁; refine goes_oper_k rfl rfl (by decide) (fun K hK => ?_); go_simp; refine hK _ _ ⟨dm_still _ (fun e he => by (have hm := mem_listed he; simp [go_sem, *] at hm)), ?_⟩; clear hK K; try walk_nrm
  exact Goes.stop fun w₂ h₂ => h _ _ _ _ _ _ _ _ _ _ _ _ _ _ _ _ _ _ _ _ _ _ _ _ _ _ _ _ (hF.rely h₂)

set_option maxRecDepth 100000 in
theorem head_end (hi : m = I.ys.length + 1) (h : ∀ j3 j4 j6 j7 j8 j9 j11 j12 j13 j14 j15 j16 j17 j18 j19 j20 j21 j22 j23 j24 j25 j26 j27 j28 j29 j31 j32 j33 j34 j35 j36 j37 j38 w, G0 I I.ys.length w → Stop (gRecv I cs (.slice none 0 0) j3 j4 j6 j7 j8 j9 j11 j12 j13 j14 j15 j16 j17 j18 j19 j20 j21 j22 j23 j24 j25 j26 j27 j28 j29 j31 j32 j33 j34 j35 j36 j37 j38) w) (j3 j4 j7 j8 j9 j10 j11 j12 j13 j14 j15 j16 j17 j21 j22 j23 j24 j25 j26 j27 j28 j29 j30 j31 j32 j33 j34 j35 j36 j37 j38 : Value) (w : World) (hF : G0 I I.ys.length w) :
    Goes Try.prog true (AsideN (cN I.W.heap.size) m) (DM (relay I S b B) m) Stop 40 (gHead I cs I.ys.length j3 j4 j7 j8 j9 j10 j11 j12 j13 j14 j15 j16 j17 j21 j22 j23 j24 j25 j26 j27 j28 j29 j30 j31 j32 j33 j34 j35 j36 j37 j38) w := by
  simp only [gHead, gRecv, ops8r, rest8b, L8b, L8a, tail8, body8, Try.f8, Option.getD_some, num] at h ⊢
  refine Goes.step rfl (fun w₁ h₁ => ?_); rw [stepG_seq]; simp only [goes_go]; refine ⟨dm_none _, ?_⟩; replace hF := hF.rely h₁; clear h₁
  refine Goes.step rfl (fun w₁ h₁ => ?_); rw [stepG_region]; simp only [goes_go, List.size_toArray, List.length_cons, List.length_nil, Nat.reduceAdd, Nat.zero_add, List.range, List.range.loop]; refine ⟨dm_none _, ?_⟩; replace hF := hF.rely h₁; clear h₁
  refine Goes.step rfl (fun w₁ h₁ => ?_); replace hF := hF.rely h₁; clear h₁; refine goes_oper_k rfl rfl (by decide) (fun K hK => ?_); go_simp; refine hK _ _ ⟨dm_still _ (fun e he => by (have hm := mem_listed he; simp [go_sem, *] at hm)), ?_⟩; clear hK K; try walk_nrm
  refine Goes.step rfl (fun w₁ h₁ => ?_); rw [stepG_region_end]; simp only [goes_go]; refine ⟨dm_none _, ?_⟩; replace hF := hF.rely h₁; clear h₁
  refine Goes.step rfl (fun w₁ h₁ => ?_); rw [stepG_seq]; simp only [goes_go]; refine ⟨dm_none _, ?_⟩; replace hF := hF.rely h₁; clear h₁
  refine Goes.step rfl (fun w₁ h₁ => ?_); rw [stepG_cond (t := false) (by simp [Act.eval])]; simp only [goes_go, if_true, if_false, Bool.false_eq_true, ↓reduceIte]; refine ⟨dm_none _, ?_⟩; replace hF := hF.rely h₁; clear h₁
  refine Goes.step rfl (fun w₁ h₁ => ?_); refine goes_exit rfl ?_; refine ⟨dm_none _, ?_⟩; replace hF := hF.rely h₁; clear h₁
  refine Goes.step rfl (fun w₁ h₁ => ?_); rw [stepG_seq]; simp only [goes_go]; refine ⟨dm_none _, ?_⟩; replace hF := hF.rely h₁; clear h₁
  refine Goes.step rfl (fun w₁ h₁ => ?_); rw [stepG_region]; simp only [goes_go, List.size_toArray, List.length_cons, List.length_nil, Nat.reduceAdd, Nat.zero_add, List.range, List.range.loop]; refine ⟨dm_none _, ?_⟩; replace hF := hF.rely h₁; clear h₁
  refine Goes.step rfl (fun w₁ h₁ => ?_); replace hF := hF.rely h₁; clear h₁; refine goes_oper_k rfl rfl (by decide) (fun K hK => ?_); go_simp; refine hK _ _ ⟨dm_still _ (fun e he => by (have hm := mem_listed he; simp [go_sem, *] at hm)), ?_⟩; clear hK K; try walk_nrm
  refine Goes.step rfl (fun w₁ h₁ => ?_); rw [stepG_region_end]; simp only [goes_go]; refine ⟨dm_none _, ?_⟩; replace hF := hF.rely h₁; clear h₁
  refine Goes.step rfl (fun w₁ h₁ => ?_); rw [stepG_seq]; simp only [goes_go]; refine ⟨dm_none _, ?_⟩; replace hF := hF.rely h₁; clear h₁
  refine Goes.step rfl (fun w₁ h₁ => ?_); rw [stepG_seq]; simp only [goes_go]; refine ⟨dm_none _, ?_⟩; replace hF := hF.rely h₁; clear h₁
  refine Goes.step rfl (fun w₁ h₁ => ?_); rw [stepG_region]; simp only [goes_go, List.size_toArray, List.length_cons, List.length_nil, Nat.reduceAdd, Nat.zero_add, List.range, List.range.loop]; refine ⟨dm_none _, ?_⟩; replace hF := hF.rely h₁; clear h₁
  refine Goes.step rfl (fun w₁ h₁ => ?_); replace hF := hF.rely h₁; clear h₁; refine goes_oper_k rfl rfl (by decide) (fun K hK => ?_); go_simp; refine hK _ _ ⟨dm_still _ (fun e he => by (have hm := mem_listed he; simp [go_sem, *] at hm)), ?_⟩; clear hK K; try walk_nrm
  refine Goes.step rfl (fun w₁ h₁ => ?_); rw [stepG_region_end]; simp only [goes_go]; refine ⟨dm_none _, ?_⟩; replace hF := hF.rely h₁; clear h₁
  refine Goes.step rfl (fun w₁ h₁ => ?_); rw [stepG_block]; simp only [goes_go]; refine ⟨dm_none _, ?_⟩; replace hF := hF.rely h₁; clear h₁
  refine Goes.step rfl (fun w₁ h₁ => ?_); rw [stepG_loop]; simp only [goes_go]; refine ⟨dm_none _, ?_⟩; replace hF := hF.rely h₁; clear h₁
  refine Goes.step rfl (fun w₁ h₁ => ?_); rw [stepG_seq]; simp only [goes_go]; refine ⟨dm_none _, ?_⟩; replace hF := hF.rely h₁; clear h₁
  refine Goes.step rfl (fun w₁ h₁ => ?_); rw [stepG_region]; simp only [goes_go, List.size_toArray, List.length_cons, List.length_nil, Nat.reduceAdd, Nat.zero_add, List.range, List.range.loop]; refine ⟨dm_none _, ?_⟩; replace hF := hF.rely h₁; clear h₁
  exact Goes.stop fun w₂ h₂ => h _ _ _ _ _ _ _ _ _ _ _ _ _ _ _ _ _ _ _ _ _ _ _ _ _ _ _ _ _ _ _ _ _ _ (hF.rely h₂)

theorem go_at (i : Nat) (v : Int) (hv : I.ys[i]? = some v) {Next : Goroutine → World → Prop} (j3 j4 j7 j8 j10 j11 j12 j13 j14 j15 j16 j17 j21 j22 j23 j24 j28 j29 j30 j31 j32 j33 j34 j35 j36 j37 j38 : Value) (w : World) (hF : G1 I i w)
    (h : ∀ j3 j4 j6 j7 j8 j10 j11 j12 j13 j14 j15 j16 j17 j21 j22 j23 j24 j25 j26 j27 j28 j29 j30 j31 j32 j33 j34 j35 j36 j37 j38 w₂, G0 I (i + 1) w₂ → Next (gWent I cs i j3 j4 j6 j7 j8 j10 j11 j12 j13 j14 j15 j16 j17 j21 j22 j23 j24 j25 j26 j27 j28 j29 j30 j31 j32 j33 j34 j35 j36 j37 j38) w₂) : AtGoN (relay I S b B) (i + 1) Next (gGo I cs i v j3 j4 j7 j8 j10 j11 j12 j13 j14 j15 j16 j17 j21 j22 j23 j24 j28 j29 j30 j31 j32 j33 j34 j35 j36 j37 j38) w := by
  refine ⟨rfl, gWent I cs i j3 j4 (.chan (some (cN I.W.heap.size i))) j7 j8 j10 j11 j12 j13 j14 j15 j16 j17 j21 j22 j23 j24 (num v) (.chan (some (cN I.W.heap.size i))) (.chan (some (cN I.W.heap.size (i + 1)))) j28 j29 j30 j31 j32 j33 j34 j35 j36 j37 j38, born Try.prog (call20 v (cN I.W.heap.size i) (cN I.W.heap.size (i + 1))), #[], ?_, by simp, ?_, hF.g.kr, hF.ch, fun w₂ r => h _ _ _ _ _ _ _ _ _ _ _ _ _ _ _ _ _ _ _ _ _ _ _ _ _ _ _ _ _ _ _ w₂ (hF.g.rely r)⟩
  rotate_left
  · refine .inl ?_
    have e : I.ys.getD (i + 1 - 1) 0 = v := by simp [List.getD, hv]
    show _ = born Try.prog (call20 (I.ys.getD (i + 1 - 1) 0) _ _)
    rw [e]
    rfl
  · show stepG Try.prog true _ w = _
    unfold gGo
    rw [stepG_spawn (d := call20 v (cN I.W.heap.size i) (cN I.W.heap.size (i + 1))) (w' := w) rfl rfl (by decide) (by simp [go_sem, execOp, Act.eval, call20, ops8go2, in8a, L8a, tail8, body8, Try.f8, num]) rfl, listed_none (by simp [go_sem, execOp, Act.eval, ops8go2, in8a, L8a, tail8, body8, Try.f8])]
    rfl
end
end Go.Proofs.Ytdpagejckahkkaa.Net
