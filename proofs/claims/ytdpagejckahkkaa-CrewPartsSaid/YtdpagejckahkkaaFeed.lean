/- crew.Relay's own function literal, which feeds the values, as the first of a chain: its stretches between its communications. -/
import Derived.Test.YtdpagejckahkkaaHand
set_option linter.unusedSimpArgs false
namespace Go.Proofs.Ytdpagejckahkkaa.Net
open Go Go.Conc Go.RowKit

noncomputable def body19 : Code := Try.f19.body.getD .skip
noncomputable def L19 : Code := match body19 with | .seq _ (.seq _ (.block _ (.loop c))) => c | _ => .skip
noncomputable def inner19 : Code := match L19 with | .seq _ (.seq _ (.seq (.block _ c) _)) => c | _ => .skip
noncomputable def post19 : Code := match L19 with | .seq _ (.seq _ (.seq _ c)) => c | _ => .skip
noncomputable def ops19s : Array Oper := match inner19 with | .seq _ (.region _ ops _) => ops | _ => #[]
noncomputable def b19 : Frame := baseD 19
def cl19 (c : Nat) : Deferred := shutCall #[33] 0 #[false] c
def call19 (fx bx : Nat) : Deferred := { target := .fn (.func 19) #[.pointer (some ⟨fx, 0, none⟩), .pointer (some ⟨bx, 0, none⟩)], args := #[] }
theorem loud19 : (Try.prog.funcs[b19.fn]?).any (·.norace) = false := by kernel_rfl

theorem born19 (fx bx : Nat) (w : World) : stepG Try.prog false (born Try.prog (call19 fx bx)) w =
    .go (G (b19.at ⟨#[.pointer (some ⟨fx, 0, none⟩), .pointer (some ⟨bx, 0, none⟩), undef, undef, undef, undef, undef, undef, undef, undef, undef, undef, undef, undef], []⟩ [.code body19]) [bot]) w #[] := by
  simp [born, call19, stepG, unwind, callDeferred, invoke, callFunc, Try.func19, Try.f19, seen, GStep.after, G, Frame.enter, Frame.at, b19, baseD, bot, body19]

/-- At the loop's test, for element j. -/
noncomputable def gTest (fx bx c : Nat) (a0 : Option Addr) (len cap j : Nat) (j2 j3 j8 j9 j10 j11 j12 j13 : Value) : Goroutine :=
  G (b19.at ⟨#[.pointer (some ⟨fx, 0, none⟩), .pointer (some ⟨bx, 0, none⟩), j2, j3, .chan (some c), .slice a0 len cap, num len, num j, j8, j9, j10, j11, j12, j13], [cl19 c]⟩ [.code L19, .inLoop L19, .inBlock 0]) [bot]
/-- At the send. -/
noncomputable def gFeeds (fx bx c : Nat) (a0 : Option Addr) (len cap j : Nat) (v : Int) (j2 j3 j8 j9 j10 j13 : Value) : Goroutine :=
  G (b19.at ⟨#[.pointer (some ⟨fx, 0, none⟩), .pointer (some ⟨bx, 0, none⟩), j2, j3, .chan (some c), .slice a0 len cap, num len, num j, j8, j9, j10, .chan (some c), num v, j13], [cl19 c]⟩ [.inRegion ops19s [2], .inBlock 1, .code post19, .inLoop L19, .inBlock 0]) [bot]
/-- Behind the send. -/
noncomputable def gFed (fx bx c : Nat) (a0 : Option Addr) (len cap j : Nat) (v : Int) (j2 j3 j8 j9 j10 j13 : Value) : Goroutine :=
  G (b19.at ⟨#[.pointer (some ⟨fx, 0, none⟩), .pointer (some ⟨bx, 0, none⟩), j2, j3, .chan (some c), .slice a0 len cap, num len, num j, j8, j9, j10, .chan (some c), num v, j13], [cl19 c]⟩ [.inRegion ops19s [], .inBlock 1, .code post19, .inLoop L19, .inBlock 0]) [bot]
/-- At its last word. -/
noncomputable def gShut19 (c : Nat) (T : Array Value) (k : List Item) : Goroutine := G { b19.at ⟨T, [cl19 c]⟩ k with mode := .returning } [bot]

section
variable {S : World → Prop} {Still : Loc → Prop} {B : Nat} {Stop : Goroutine → World → Prop} {fx bx c : Nat} {a0 : Option Addr} {cap : Nat} {vs : List Int}

/-- What is asked of the places that it reads. -/
structure Source (S : World → Prop) (Still : Loc → Prop) (B fx bx c : Nat) (a0 : Option Addr) (cap : Nat) (vs : List Int) : Prop where
  box : ∀ w, S w → w.cell? ⟨bx, 0, none⟩ = some (.slice a0 vs.length cap)
  fst : ∀ w, S w → w.cell? ⟨fx, 0, none⟩ = some (.chan (some c))
  el : ∀ j v, vs[j]? = some v → ∃ ad, a0 = some ad ∧ ad.block < B ∧ Still (.cell (ad.add j)) ∧ ∀ w, S w → w.cell? (ad.add j) = some (num v)
  boxS : Still (.cell ⟨bx, 0, none⟩)
  fstS : Still (.cell ⟨fx, 0, none⟩)
  boxB : bx < B
  fstB : fx < B
  len : vs.length ≤ 4611686018427387904

theorem addBlk (a : Addr) (n : Nat) : (a.add n).block = a.block := by unfold Addr.add; split <;> rfl

set_option maxRecDepth 100000 in
/-- From the test of element j on: to the send of it, or to the last word. -/
theorem feed_test (H : Source S Still B fx bx c a0 cap vs) (j : Nat) (hj : j ≤ vs.length) (h1 : ∀ v, vs[j]? = some v → ∀ j2 j3 j8 j9 j10 j13 w₁, S w₁ → Stop (gFeeds fx bx c a0 vs.length cap j v j2 j3 j8 j9 j10 j13) w₁)
    (h2 : j = vs.length → ∀ T k w₁, S w₁ → Stop (gShut19 c T k) w₁) (j2 j3 j8 j9 j10 j11 j12 j13 : Value) :
    ∀ w, Goes Try.prog false (fun _ w₁ => S w₁) (DS Still B) Stop 30 (gTest fx bx c a0 vs.length cap j j2 j3 j8 j9 j10 j11 j12 j13) w := by
  intro w
  have hlen := H.len
  simp only [gTest, gFeeds, gShut19, ops19s, inner19, post19, L19, body19, Try.f19, Option.getD_some, num] at h1 h2 ⊢
  k_c stepG_seq
  k_reg
  k_in
  refine goes_oper_k rfl rfl (by decide) (fun K hK => ?_); go_simp; refine hK _ _ ⟨⟨rfl, fun e he => by (have hm := mem_listed he; simp [go_sem] at hm)⟩, ?_⟩; clear hK K
  k_c stepG_region_end
  k_c stepG_seq
  by_cases hlt : j < vs.length
  · obtain ⟨ad, rfl, hB, hS, hel⟩ := H.el j vs[j] (List.getElem?_eq_getElem hlt)
    k_in
    rw [stepG_cond (t := true) (by simp [Act.eval, hlt])]; simp only [goes_go, if_true, if_false, Bool.false_eq_true, ↓reduceIte]; refine ⟨ds_none _, ?_⟩
    k_c stepG_skip
    k_c stepG_seq
    k_c stepG_block
    k_c stepG_seq
    k_reg
    k_in
    refine goes_oper_k rfl rfl (by decide) (fun K hK => ?_); go_simp; refine hK _ _ ⟨⟨rfl, fun e he => by (have hm := mem_listed he; simp [go_sem, *] at hm)⟩, ?_⟩; clear hK K
    k_in
    have hc := hel _ h₁
    refine goes_oper_k rfl rfl (by decide) (fun K hK => ?_); go_simp
    refine hK _ _ ⟨⟨rfl, fun e he => by (have hm := mem_listed he; simp [go_sem, *] at hm; subst hm; exact evC_read _ hS (by rw [addBlk]; exact hB))⟩, ?_⟩; clear hK K
    k_in
    refine goes_oper_k rfl rfl (by decide) (fun K hK => ?_); go_simp; refine hK _ _ ⟨⟨rfl, fun e he => by (have hm := mem_listed he; simp [go_sem, *] at hm)⟩, ?_⟩; clear hK K
    k_c stepG_region_end
    k_reg
    k_in
    have hc := H.fst _ h₁
    refine goes_oper_k rfl rfl (by decide) (fun K hK => ?_); go_simp
    refine hK _ _ ⟨⟨rfl, fun e he => by (have hm := mem_listed he; simp [go_sem, *] at hm; subst hm; exact evC_read _ H.fstS H.fstB)⟩, ?_⟩; clear hK K
    k_in
    refine goes_oper_k rfl rfl (by decide) (fun K hK => ?_); go_simp; refine hK _ _ ⟨⟨rfl, fun e he => by (have hm := mem_listed he; simp [go_sem, *] at hm)⟩, ?_⟩; clear hK K
    exact Goes.stop fun w₂ h₂ => h1 _ (List.getElem?_eq_getElem hlt) _ _ _ _ _ _ _ h₂
  · have e : j = vs.length := by omega
    k_in
    rw [stepG_cond (t := false) (by simp [Act.eval, hlt])]; simp only [goes_go, if_true, if_false, Bool.false_eq_true, ↓reduceIte]; refine ⟨ds_none _, ?_⟩
    k_in
    refine goes_exit rfl ?_
    refine ⟨ds_none _, ?_⟩
    k_c stepG_end
    exact Goes.stop fun w₂ h₂ => h2 e _ _ _ h₂

set_option maxRecDepth 100000 in
theorem feed_birth (H : Source S Still B fx bx c a0 cap vs) {k : Nat} (h : ∀ j2 j3 j8 j9 j10 j11 j12 j13 w, Goes Try.prog false (fun _ w₁ => S w₁) (DS Still B) Stop k (gTest fx bx c a0 vs.length cap 0 j2 j3 j8 j9 j10 j11 j12 j13) w) : ∃ n, ∀ w, Goes Try.prog false (fun _ w₁ => S w₁) (DS Still B) Stop n (born Try.prog (call19 fx bx)) w := by
  refine ⟨k + 14, fun w => Goes.step rfl fun w₁ h₁ => ?_⟩
  rw [born19]
  refine ⟨ds_none _, ?_⟩
  simp only [gTest, L19, body19, Try.f19, Option.getD_some, num] at h ⊢
  k_c stepG_seq
  k_reg
  k_in
  have hc := H.fst _ h₁
  refine goes_oper_k rfl rfl (by decide) (fun K hK => ?_); go_simp
  refine hK _ _ ⟨⟨rfl, fun e he => by (have hm := mem_listed he; simp [go_sem, *] at hm; subst hm; exact evC_read _ H.fstS H.fstB)⟩, ?_⟩; clear hK K
  k_in
  rw [stepG_deferB rfl rfl (by decide) rfl]
  refine ⟨ds_none _, ?_⟩
  walk_nrm
  k_c stepG_region_end
  k_c stepG_seq
  k_reg
  k_in
  have hb := H.box _ h₁
  refine goes_oper_k rfl rfl (by decide) (fun K hK => ?_); go_simp
  refine hK _ _ ⟨⟨rfl, fun e he => by (have hm := mem_listed he; simp [go_sem, *] at hm; subst hm; exact evC_read _ H.boxS H.boxB)⟩, ?_⟩; clear hK K
  k_in
  refine goes_oper_k rfl rfl (by decide) (fun K hK => ?_); go_simp; refine hK _ _ ⟨⟨rfl, fun e he => by (have hm := mem_listed he; simp [go_sem, *] at hm)⟩, ?_⟩; clear hK K
  k_in
  refine goes_oper_k rfl rfl (by decide) (fun K hK => ?_); go_simp; refine hK _ _ ⟨⟨rfl, fun e he => by (have hm := mem_listed he; simp [go_sem, *] at hm)⟩, ?_⟩; clear hK K
  k_c stepG_region_end
  k_c stepG_block
  k_c stepG_loop
  exact h _ _ _ _ _ _ _ _ _

set_option maxRecDepth 100000 in
theorem feed_next (H : Source S Still B fx bx c a0 cap vs) {k : Nat} (j : Nat) (hj : j < vs.length) (h : ∀ j2 j3 j8 j9 j10 j11 j12 j13 w, Goes Try.prog false (fun _ w₁ => S w₁) (DS Still B) Stop k (gTest fx bx c a0 vs.length cap (j + 1) j2 j3 j8 j9 j10 j11 j12 j13) w) (v : Int) (j2 j3 j8 j9 j10 j13 : Value) :
    ∃ n, ∀ w, Goes Try.prog false (fun _ w₁ => S w₁) (DS Still B) Stop n (gFed fx bx c a0 vs.length cap j v j2 j3 j8 j9 j10 j13) w := by
  have hlen := H.len
  have e : IntKind.i64.wrap ((j : Int) + 1) = ((j + 1 : Nat) : Int) := by rw [IntKind.wrap_i64]; omega
  refine ⟨k + 7, fun w => ?_⟩
  simp only [gTest, gFed, ops19s, inner19, post19, L19, body19, Try.f19, Option.getD_some, num] at h ⊢
  k_c stepG_region_end
  k_c stepG_inBlock
  k_reg
  k_in
  refine goes_oper_k rfl rfl (by decide) (fun K hK => ?_); go_simp; refine hK _ _ ⟨⟨rfl, fun e he => by (have hm := mem_listed he; simp [go_sem] at hm)⟩, ?_⟩; clear hK K
  k_in
  refine goes_oper_k rfl rfl (by decide) (fun K hK => ?_); go_simp; refine hK _ _ ⟨⟨rfl, fun e he => by (have hm := mem_listed he; simp [go_sem] at hm)⟩, ?_⟩; clear hK K
  k_c stepG_region_end
  k_c stepG_inLoop
  exact h _ _ _ _ _ _ _ _ _
end

section
variable {C : Cfg}
theorem feed_give (hP : C.P = Try.prog) {p : Nat} {Next : Goroutine → Prop} {fx bx c : Nat} {a0 : Option Addr} {len cap j : Nat} {v : Int} (hc : C.c p = c) (j2 j3 j8 j9 j10 j13 : Value) (hn : Next (gFed fx bx c a0 len cap j v j2 j3 j8 j9 j10 j13)) :
    AtGive C p v Next (gFeeds fx bx c a0 len cap j v j2 j3 j8 j9 j10 j13) := by
  subst hc
  refine ⟨rfl, gFeeds fx bx (C.c p) a0 len cap j v j2 j3 j8 j9 j10 j13, .tuple #[], fun w _ => ?_, hn⟩
  rw [hP]
  unfold gFeeds
  rw [stepG_comm (cases := #[scase (C.c p) (num v) (.tuple #[])]) (blocking := true) (shape := .send) (w' := w) rfl rfl (by decide) (by simp [go_sem, execOp, scase, Act.eval, ops19s, inner19, L19, body19, Try.f19]), listed_none (by simp [go_sem, execOp, Act.eval, ops19s, inner19, L19, body19, Try.f19])]
theorem feed_close (hP : C.P = Try.prog) {p : Nat} {c : Nat} (hc : C.c p = c) (T : Array Value) (k : List Item) : AtClose C p (gShut19 c T k) := by
  subst hc
  refine ⟨rfl, rfl, G { b19.at ⟨T, []⟩ k with mode := .returning } [bot], 2, fun w s r _ h => ?_, ?_⟩
  · rw [hP]
    exact stepG_unwind_close rfl h loud19
  · rw [hP]
    refine .inr ⟨rfl, G bot [], fun w => ?_, .inr ⟨rfl, { G bot [] with status := .finished }, fun w => ?_, rfl⟩⟩
    · simp [G, stepG, unwind, doReturn, results, Frame.at, b19, baseD, bot, Try.func19, Try.f19, seen, GStep.after, goexitEntry]
    · simp [G, stepG, unwind, bot, goexitEntry, Frame.catches]
      rfl
end
end Go.Proofs.Ytdpagejckahkkaa.Net
