/- crew.send as one of many senders: its stretches between its communications. -/
import Derived.Test.YtdpagejckahkkaaMergeC
import Derived.Test.YtdpagejckahkkaaHand
set_option linter.unusedSimpArgs false
set_option linter.unusedVariables false
namespace Go.Proofs.Ytdpagejckahkkaa.Net
open Go Go.Conc Go.RowKit
open Go.ConcR (stA smA rd wr mk WgAt KK)

noncomputable def body24 : Code := Try.f24.body.getD .skip
noncomputable def L24 : Code := match body24 with | .seq _ (.seq _ (.seq _ (.block _ (.loop c)))) => c | _ => .skip
noncomputable def inner24 : Code := match L24 with | .seq _ (.seq _ (.seq (.block _ c) _)) => c | _ => .skip
noncomputable def post24 : Code := match L24 with | .seq _ (.seq _ (.seq _ c)) => c | _ => .skip
noncomputable def ops24s : Array Oper := match inner24 with | .seq _ (.seq _ (.seq (.region _ ops _) _)) => ops | _ => #[]
noncomputable def rest24 : Code := match inner24 with | .seq _ (.seq _ (.seq _ c)) => c | _ => .skip
noncomputable def b24 : Frame := baseD 24
def cl24 (c : Nat) : Deferred := shutCall #[54] 0 #[false] c
def dn24 (g : Nat) : Deferred := dcall 39 #[.pointer (some ⟨g, 0, none⟩)]
def call24 (a0 : Option Addr) (len cap c d g : Nat) : Deferred := { target := .fn (.func 24) #[], args := #[.slice a0 len cap, .chan (some c), .chan (some d), .pointer (some ⟨g, 0, none⟩)] }
theorem loud24 : (Try.prog.funcs[b24.fn]?).any (·.norace) = false := by kernel_rfl

theorem born24 (a0 : Option Addr) (len cap c d g : Nat) (w : World) : stepG Try.prog false (born Try.prog (call24 a0 len cap c d g)) w =
    .go (G (b24.at ⟨#[.slice a0 len cap, .chan (some c), .chan (some d), .pointer (some ⟨g, 0, none⟩), undef, undef, undef, undef, undef, undef, undef, undef, undef, undef, undef, undef, undef, undef, undef, undef, undef, undef, undef, undef, undef, undef], []⟩ [.code body24]) [bot]) w #[] := by
  simp [born, call24, stepG, unwind, callDeferred, invoke, callFunc, Try.func24, Try.f24, seen, GStep.after, G, Frame.enter, Frame.at, b24, baseD, bot, body24]

section
variable {S : World → Prop} {Still : Loc → Prop} {B : Nat} {Stop : Goroutine → World → Prop} {a0 : Option Addr} {cap c d g : Nat} {vs : List Int}

/-- What is asked of the places that it reads. -/
structure Numbers (S : World → Prop) (Still : Loc → Prop) (B : Nat) (a0 : Option Addr) (vs : List Int) : Prop where
  el : ∀ j v, vs[j]? = some v → ∃ ad, a0 = some ad ∧ ad.block < B ∧ Still (.cell (ad.add j)) ∧ ∀ w, S w → w.cell? (ad.add j) = some (num v)
  len : vs.length ≤ 4611686018427387904

/-- At the loop's test, for element j. -/
noncomputable def gTest24 (a0 : Option Addr) (len cap c d g j : Nat) (j4 j5 j6 j7 j8 j9 j10 j11 j15 j16 j17 j18 j19 j20 j21 j22 j23 j24 j25 : Value) : Goroutine :=
  G (b24.at ⟨#[.slice a0 len cap, .chan (some c), .chan (some d), .pointer (some ⟨g, 0, none⟩), j4, j5, j6, j7, j8, j9, j10, j11, .slice a0 len cap, num len, num j, j15, j16, j17, j18, j19, j20, j21, j22, j23, j24, j25], [cl24 c, dn24 g]⟩ [.code L24, .inLoop L24, .inBlock 0]) [bot]
/-- At the select. -/
noncomputable def gSel24 (a0 : Option Addr) (len cap c d g j : Nat) (v : Int) (j4 j5 j6 j7 j8 j9 j10 j11 j15 j16 j17 j21 j22 j23 j24 j25 : Value) : Goroutine :=
  G (b24.at ⟨#[.slice a0 len cap, .chan (some c), .chan (some d), .pointer (some ⟨g, 0, none⟩), j4, j5, j6, j7, j8, j9, j10, j11, .slice a0 len cap, num len, num j, j15, j16, j17, .chan (some c), num v, .chan (some d), j21, j22, j23, j24, j25], [cl24 c, dn24 g]⟩
    [.inRegion ops24s [0, 1, 2, 3], .code rest24, .inBlock 1, .code post24, .inLoop L24, .inBlock 0]) [bot]
/-- At its last words. -/
noncomputable def gShut24 (c g : Nat) (T : Array Value) (k : List Item) : Goroutine := G { b24.at ⟨T, [cl24 c, dn24 g]⟩ k with mode := .returning } [bot]

theorem addBlk24 (a : Addr) (n : Nat) : (a.add n).block = a.block := by unfold Addr.add; split <;> rfl

set_option maxRecDepth 100000 in
/-- From the test of element j on: to the select, or to the last words. -/
theorem send_test (H : Numbers S Still B a0 vs) (j : Nat) (hj : j ≤ vs.length) (h1 : ∀ v, vs[j]? = some v → ∀ j4 j5 j6 j7 j8 j9 j10 j11 j15 j16 j17 j21 j22 j23 j24 j25 w₁, S w₁ → Stop (gSel24 a0 vs.length cap c d g j v j4 j5 j6 j7 j8 j9 j10 j11 j15 j16 j17 j21 j22 j23 j24 j25) w₁)
    (h2 : j = vs.length → ∀ T k w₁, S w₁ → Stop (gShut24 c g T k) w₁) (j4 j5 j6 j7 j8 j9 j10 j11 j15 j16 j17 j18 j19 j20 j21 j22 j23 j24 j25 : Value) :
    ∀ w, Goes Try.prog false (fun _ w₁ => S w₁) (DS Still B) Stop 50 (gTest24 a0 vs.length cap c d g j j4 j5 j6 j7 j8 j9 j10 j11 j15 j16 j17 j18 j19 j20 j21 j22 j23 j24 j25) w := by
  intro w
  have hlen := H.len
  simp only [gTest24, gSel24, gShut24, ops24s, inner24, post24, rest24, L24, body24, Try.f24, Option.getD_some, num] at h1 h2 ⊢
  k_c stepG_seq
  k_reg
  k_in
  refine goes_oper_k rfl rfl (by decide) (fun K hK => ?_); go_simp; refine hK _ _ ⟨⟨rfl, fun e he => by (have hm := mem_listed he; simp [go_sem] at hm)⟩, ?_⟩; clear hK K
  k_c stepG_region_end
  k_c stepG_seq
  by_cases hlt : j < vs.length
  · obtain ⟨ad, rfl, hB, hS, hel⟩ := H.el j vs[j] (List.getElem?_eq_getElem hlt)
    k_in
    rw [stepG_cond (t := true) (by simp [Act.eval, hlt])]; simp only [goes_go, if_true, if_false, Bool.false_eq_true, ↓reduceIte]; refine ⟨ds_none _, ?_⟩
    k_c stepG_skip
    k_c stepG_seq
    k_c stepG_block
    k_c stepG_seq
    k_reg
    k_in
    refine goes_oper_k rfl rfl (by decide) (fun K hK => ?_); go_simp; refine hK _ _ ⟨⟨rfl, fun e he => by (have hm := mem_listed he; simp [go_sem, *] at hm)⟩, ?_⟩; clear hK K
    k_in
    have hc := hel _ h₁
    refine goes_oper_k rfl rfl (by decide) (fun K hK => ?_); go_simp
    refine hK _ _ ⟨⟨rfl, fun e he => by (have hm := mem_listed he; simp [go_sem, *] at hm; subst hm; exact evC_read _ hS (by rw [addBlk24]; exact hB))⟩, ?_⟩; clear hK K
    k_in
    refine goes_oper_k rfl rfl (by decide) (fun K hK => ?_); go_simp; refine hK _ _ ⟨⟨rfl, fun e he => by (have hm := mem_listed he; simp [go_sem, *] at hm)⟩, ?_⟩; clear hK K
    k_c stepG_region_end
    k_c stepG_seq
    k_c stepG_seq
    k_c stepG_seq
    k_reg
    k_in
    refine goes_oper_k rfl rfl (by decide) (fun K hK => ?_); go_simp; refine hK _ _ ⟨⟨rfl, fun e he => by (have hm := mem_listed he; simp [go_sem] at hm)⟩, ?_⟩; clear hK K
    k_c stepG_region_end
    k_reg
    k_in
    refine goes_oper_k rfl rfl (by decide) (fun K hK => ?_); go_simp; refine hK _ _ ⟨⟨rfl, fun e he => by (have hm := mem_listed he; simp [go_sem] at hm)⟩, ?_⟩; clear hK K
    k_c stepG_region_end
    k_reg
    k_in
    refine goes_oper_k rfl rfl (by decide) (fun K hK => ?_); go_simp; refine hK _ _ ⟨⟨rfl, fun e he => by (have hm := mem_listed he; simp [go_sem] at hm)⟩, ?_⟩; clear hK K
    k_c stepG_region_end
    k_c stepG_seq
    k_reg
    exact Goes.stop fun w₂ h₂ => h1 _ (List.getElem?_eq_getElem hlt) _ _ _ _ _ _ _ _ _ _ _ _ _ _ _ _ _ h₂
  · have e : j = vs.length := by omega
    k_in
    rw [stepG_cond (t := false) (by simp [Act.eval, hlt])]; simp only [goes_go, if_true, if_false, Bool.false_eq_true, ↓reduceIte]; refine ⟨ds_none _, ?_⟩
    k_in
    refine goes_exit rfl ?_
    refine ⟨ds_none _, ?_⟩
    k_c stepG_end
    exact Goes.stop fun w₂ h₂ => h2 e _ _ _ h₂

/-- Behind the select: what it yielded. -/
noncomputable def gPast24 (a0 : Option Addr) (len cap c d g j : Nat) (v : Int) (r : Value) (j4 j5 j6 j7 j8 j9 j10 j11 j15 j16 j17 j22 j23 j24 j25 : Value) : Goroutine :=
  G (b24.at ⟨#[.slice a0 len cap, .chan (some c), .chan (some d), .pointer (some ⟨g, 0, none⟩), j4, j5, j6, j7, j8, j9, j10, j11, .slice a0 len cap, num len, num j, j15, j16, j17, .chan (some c), num v, .chan (some d), r, j22, j23, j24, j25], [cl24 c, dn24 g]⟩
    [.inRegion ops24s [1, 2, 3], .code rest24, .inBlock 1, .code post24, .inLoop L24, .inBlock 0]) [bot]

set_option maxRecDepth 100000 in
theorem send_birth {k : Nat} (h : ∀ j4 j5 j6 j7 j8 j9 j10 j11 j15 j16 j17 j18 j19 j20 j21 j22 j23 j24 j25 w, Goes Try.prog false (fun _ w₁ => S w₁) (DS Still B) Stop k (gTest24 a0 vs.length cap c d g 0 j4 j5 j6 j7 j8 j9 j10 j11 j15 j16 j17 j18 j19 j20 j21 j22 j23 j24 j25) w) : ∃ n, ∀ w, Goes Try.prog false (fun _ w₁ => S w₁) (DS Still B) Stop n (born Try.prog (call24 a0 vs.length cap c d g)) w := by
  refine ⟨k + 20, fun w => Goes.step rfl fun w₁ h₁ => ?_⟩
  rw [born24]
  refine ⟨ds_none _, ?_⟩
  simp only [gTest24, L24, body24, Try.f24, Option.getD_some, num] at h ⊢
  k_c stepG_seq
  k_reg
  k_in
  refine goes_oper_k rfl rfl (by decide) (fun K hK => ?_); go_simp; refine hK _ _ ⟨⟨rfl, fun e he => by (have hm := mem_listed he; simp [go_sem] at hm)⟩, ?_⟩; clear hK K
  k_in
  rw [stepG_defer rfl rfl (by decide) rfl]
  refine ⟨ds_none _, ?_⟩
  walk_nrm
  k_c stepG_region_end
  k_c stepG_seq
  k_reg
  k_in
  refine goes_oper_k rfl rfl (by decide) (fun K hK => ?_); go_simp; refine hK _ _ ⟨⟨rfl, fun e he => by (have hm := mem_listed he; simp [go_sem] at hm)⟩, ?_⟩; clear hK K
  k_in
  rw [stepG_deferB rfl rfl (by decide) rfl]
  refine ⟨ds_none _, ?_⟩
  walk_nrm
  k_c stepG_region_end
  k_c stepG_seq
  k_reg
  k_in
  refine goes_oper_k rfl rfl (by decide) (fun K hK => ?_); go_simp; refine hK _ _ ⟨⟨rfl, fun e he => by (have hm := mem_listed he; simp [go_sem] at hm)⟩, ?_⟩; clear hK K
  k_in
  refine goes_oper_k rfl rfl (by decide) (fun K hK => ?_); go_simp; refine hK _ _ ⟨⟨rfl, fun e he => by (have hm := mem_listed he; simp [go_sem] at hm)⟩, ?_⟩; clear hK K
  k_in
  refine goes_oper_k rfl rfl (by decide) (fun K hK => ?_); go_simp; refine hK _ _ ⟨⟨rfl, fun e he => by (have hm := mem_listed he; simp [go_sem] at hm)⟩, ?_⟩; clear hK K
  k_c stepG_region_end
  k_c stepG_block
  k_c stepG_loop
  exact (h _ _ _ _ _ _ _ _ _ _ _ _ _ _ _ _ _ _ _ _).mono (by omega)

theorem sel_step (len j : Nat) (v : Int) (j4 j5 j6 j7 j8 j9 j10 j11 j15 j16 j17 j21 j22 j23 j24 j25 : Value) (w : World) : ∃ (sh : CommShape) (z zd : Value), stepG Try.prog false (gSel24 a0 len cap c d g j v j4 j5 j6 j7 j8 j9 j10 j11 j15 j16 j17 j21 j22 j23 j24 j25) w = .comm (core (gSel24 a0 len cap c d g j v j4 j5 j6 j7 j8 j9 j10 j11 j15 j16 j17 j21 j22 j23 j24 j25)) (twoCases c (num v) z d zd) true sh w #[] := by
  refine ⟨.select, .int .i64 0, .agg #[], ?_⟩
  unfold gSel24
  rw [stepG_comm (cases := twoCases c (num v) (.int .i64 0) d (.agg #[])) (blocking := true) (shape := .select) (w' := w) rfl rfl (by decide) (by simp [go_sem, execOp, twoCases, scase, rcase, Act.eval, num, ops24s, inner24, L24, body24, Try.f24]), listed_none (by simp [go_sem, execOp, Act.eval, ops24s, inner24, L24, body24, Try.f24])]
  rfl

theorem sel_past (len j : Nat) (v : Int) (j4 j5 j6 j7 j8 j9 j10 j11 j15 j16 j17 j21 j22 j23 j24 j25 : Value) (cs : Array CommCase) (k : Int) (x : Value) (ok : Bool) :
    (core (gSel24 a0 len cap c d g j v j4 j5 j6 j7 j8 j9 j10 j11 j15 j16 j17 j21 j22 j23 j24 j25)).finishComm Try.prog cs .select k x ok = gPast24 a0 len cap c d g j v (commResult cs .select k x ok) j4 j5 j6 j7 j8 j9 j10 j11 j15 j16 j17 j22 j23 j24 j25 := rfl

set_option maxRecDepth 100000 in
/-- It has sent: on to the next. -/
theorem send_next {k j : Nat} (hj : j < vs.length) (hlen : vs.length ≤ 4611686018427387904) (h : ∀ j4 j5 j6 j7 j8 j9 j10 j11 j15 j16 j17 j18 j19 j20 j21 j22 j23 j24 j25 w, Goes Try.prog false (fun _ w₁ => S w₁) (DS Still B) Stop k (gTest24 a0 vs.length cap c d g (j + 1) j4 j5 j6 j7 j8 j9 j10 j11 j15 j16 j17 j18 j19 j20 j21 j22 j23 j24 j25) w) (v : Int) (b0 z0 : Value) (j4 j5 j6 j7 j8 j9 j10 j11 j15 j16 j17 j22 j23 j24 j25 : Value) :
    ∃ n, ∀ w, Goes Try.prog false (fun _ w₁ => S w₁) (DS Still B) Stop n (gPast24 a0 vs.length cap c d g j v (.tuple #[.int .i64 0, b0, z0]) j4 j5 j6 j7 j8 j9 j10 j11 j15 j16 j17 j22 j23 j24 j25) w := by
  have e : IntKind.i64.wrap ((j : Int) + 1) = ((j + 1 : Nat) : Int) := by rw [IntKind.wrap_i64]; omega
  refine ⟨k + 20, fun w => ?_⟩
  simp only [gTest24, gPast24, ops24s, inner24, post24, rest24, L24, body24, Try.f24, Option.getD_some, num] at h ⊢
  k_in
  refine goes_oper_k rfl rfl (by decide) (fun K hK => ?_); go_simp; refine hK _ _ ⟨⟨rfl, fun e he => by (have hm := mem_listed he; simp [go_sem] at hm)⟩, ?_⟩; clear hK K
  k_in
  refine goes_oper_k rfl rfl (by decide) (fun K hK => ?_); go_simp; refine hK _ _ ⟨⟨rfl, fun e he => by (have hm := mem_listed he; simp [go_sem] at hm)⟩, ?_⟩; clear hK K
  k_in
  refine goes_oper_k rfl rfl (by decide) (fun K hK => ?_); go_simp; refine hK _ _ ⟨⟨rfl, fun e he => by (have hm := mem_listed he; simp [go_sem] at hm)⟩, ?_⟩; clear hK K
  k_c stepG_region_end
  k_c stepG_block
  k_in
  rw [stepG_cond (t := true) rfl]; simp only [goes_go, if_true, if_false, Bool.false_eq_true, ↓reduceIte]; refine ⟨ds_none _, ?_⟩
  k_c stepG_skip
  k_c stepG_inBlock
  k_c stepG_inBlock
  k_reg
  k_in
  refine goes_oper_k rfl rfl (by decide) (fun K hK => ?_); go_simp; refine hK _ _ ⟨⟨rfl, fun e he => by (have hm := mem_listed he; simp [go_sem] at hm)⟩, ?_⟩; clear hK K
  k_in
  refine goes_oper_k rfl rfl (by decide) (fun K hK => ?_); go_simp; refine hK _ _ ⟨⟨rfl, fun e he => by (have hm := mem_listed he; simp [go_sem] at hm)⟩, ?_⟩; clear hK K
  k_c stepG_region_end
  k_c stepG_inLoop
  exact (h _ _ _ _ _ _ _ _ _ _ _ _ _ _ _ _ _ _ _ _).mono (by omega)

set_option maxRecDepth 100000 in
/-- It is told to stop. -/
theorem send_told {len j : Nat} (h : ∀ T k w₁, S w₁ → Stop (gShut24 c g T k) w₁) (v : Int) (b0 z0 : Value) (j4 j5 j6 j7 j8 j9 j10 j11 j15 j16 j17 j22 j23 j24 j25 : Value) :
    ∃ n, ∀ w, Goes Try.prog false (fun _ w₁ => S w₁) (DS Still B) Stop n (gPast24 a0 len cap c d g j v (.tuple #[.int .i64 1, b0, z0]) j4 j5 j6 j7 j8 j9 j10 j11 j15 j16 j17 j22 j23 j24 j25) w := by
  refine ⟨30, fun w => ?_⟩
  simp only [gShut24, gPast24, ops24s, inner24, post24, rest24, L24, body24, Try.f24, Option.getD_some, num] at h ⊢
  k_in
  refine goes_oper_k rfl rfl (by decide) (fun K hK => ?_); go_simp; refine hK _ _ ⟨⟨rfl, fun e he => by (have hm := mem_listed he; simp [go_sem] at hm)⟩, ?_⟩; clear hK K
  k_in
  refine goes_oper_k rfl rfl (by decide) (fun K hK => ?_); go_simp; refine hK _ _ ⟨⟨rfl, fun e he => by (have hm := mem_listed he; simp [go_sem] at hm)⟩, ?_⟩; clear hK K
  k_in
  refine goes_oper_k rfl rfl (by decide) (fun K hK => ?_); go_simp; refine hK _ _ ⟨⟨rfl, fun e he => by (have hm := mem_listed he; simp [go_sem] at hm)⟩, ?_⟩; clear hK K
  k_c stepG_region_end
  k_c stepG_block
  k_in
  rw [stepG_cond (t := false) rfl]; simp only [goes_go, if_true, if_false, Bool.false_eq_true, ↓reduceIte]; refine ⟨ds_none _, ?_⟩
  k_in
  rw [stepG_cond (t := true) rfl]; simp only [goes_go, if_true, if_false, Bool.false_eq_true, ↓reduceIte]; refine ⟨ds_none _, ?_⟩
  k_c stepG_ret'
  exact Goes.stop fun w₂ h₂ => h _ _ _ h₂
end

section
variable {C : MCfg}
/-- Behind the close: the group's Done is still to be said. -/
noncomputable def gDone24 (g : Nat) (T : Array Value) (k : List Item) : Goroutine := G { b24.at ⟨T, [dn24 g]⟩ k with mode := .returning } [bot]
theorem send_close (hP : C.P = Try.prog) {p c g : Nat} (hc : C.c p = c) (T : Array Value) (k : List Item) {Next : Goroutine → Prop} (h : Next (gDone24 g T k)) : AtCloseM C p Next (gShut24 c g T k) := by
  subst hc
  refine ⟨rfl, rfl, gDone24 g T k, fun w s r _ hw => ?_, h⟩
  rw [hP]
  exact stepG_unwind_close rfl hw loud24
end
end Go.Proofs.Ytdpagejckahkkaa.Net
