/- crew.hand and crew.Relay$1 as ones of a chain: each goroutine's stretches between its communications. -/
import Derived.Test.YtdpagejckahkkaaNetI
import Derived.Test.YtdpagejckahkkaaChecked
import Derived.Conc.TokenWords
import Derived.Conc.DeferLaws
import Derived.KernelRfl
import Derived.RowKit
set_option linter.unusedSimpArgs false
namespace Go.Proofs.Ytdpagejckahkkaa.Net
open Go Go.Conc Go.RowKit

/-- The deferred call 'close(c)'. -/
def shutCall (ats : Array TypeId) (ty : TypeId) (cs : Array Bool) (c : Nat) : Deferred := { target := .builtin .close ats ty cs, args := #[.chan (some c)] }

theorem stepG_unwind_close {P : Program} {main : Bool} {b : Frame} {a : Act} {todo : List Item} {cs : List Frame} {w : World} {ats : Array TypeId} {ty : TypeId} {ks : Array Bool} {c s r : Nat} {ds : List Deferred} (hd : a.defers = shutCall ats ty ks c :: ds)
    (hc : w.heap[c]? = some (.chan 0 #[] false s r false)) (hl : (P.funcs[b.fn]?).any (·.norace) = false) :
    stepG P main (G { b.at a todo with mode := .returning } cs) w = .go (G { b.at ⟨a.tmps, ds⟩ todo with mode := .returning } cs) (w.setChan c 0 #[] true s r false) (closeEvents c) := by
  have hr := run_close_open (P := P) (w := w) ats ty hc
  have he := events_close_open (P := P) (w := w) (es := #[]) ats ty hc
  have hl' : seen P b.fn (closeEvents c) = closeEvents c := seen_eq hl (by simp [closeEvents])
  simp [G, stepG, unwind, callDeferred, Frame.at, hd, shutCall, invoke, builtin, GStep.after, hr, he]
  exact ⟨rfl, hl'⟩

noncomputable def bot : Frame := { (default : Frame) with fn := Try.prog.funcs.size, defers := [], mode := .panicking [goexitEntry] }

/-! ### hand -/
noncomputable def body20 : Code := Try.f20.body.getD .skip
noncomputable def L20 : Code := match body20 with | .seq _ (.block _ (.loop c)) => c | _ => .skip
noncomputable def ops20r : Array Oper := match L20 with | .block _ (.seq (.region _ ops _) _) => ops | _ => #[]
noncomputable def rest20 : Code := match L20 with | .block _ (.seq _ r) => r | _ => .skip
noncomputable def ops20s : Array Oper := match rest20 with | .seq _ (.region _ ops _) => ops | _ => #[]
noncomputable def b20 : Frame := baseD 20
def cl20 (c : Nat) : Deferred := shutCall #[54] 0 #[false] c
def call20 (x : Int) (f c : Nat) : Deferred := { target := .fn (.func 20) #[], args := #[num x, .chan (some f), .chan (some c)] }
theorem loud20 : (Try.prog.funcs[b20.fn]?).any (·.norace) = false := by kernel_rfl

/-- Behind the receive. -/
noncomputable def gTook (x : Int) (f c : Nat) (j3 j4 j5 j6 j7 j9 j10 r j12 j13 j14 j15 j16 j17 j18 j19 : Value) : Goroutine :=
  G (b20.at ⟨#[num x, .chan (some f), .chan (some c), j3, j4, j5, j6, j7, .chan (some c), j9, j10, r, j12, j13, j14, j15, j16, j17, j18, j19], [cl20 c]⟩ [.inRegion ops20r [2, 3, 4, 5, 6], .code rest20, .inBlock 1, .inLoop L20, .inBlock 0]) [bot]
/-- Behind the send. -/
noncomputable def gGave (x : Int) (f c : Nat) (j3 j4 j5 j6 j7 j9 j10 r j12 j13 j14 j15 j16 j17 j18 j19 : Value) : Goroutine :=
  G (b20.at ⟨#[num x, .chan (some f), .chan (some c), j3, j4, j5, j6, j7, .chan (some c), j9, j10, r, j12, j13, j14, j15, j16, j17, j18, j19], [cl20 c]⟩ [.inRegion ops20s [], .inBlock 1, .inLoop L20, .inBlock 0]) [bot]

theorem born20 (x : Int) (f c : Nat) (w : World) : stepG Try.prog false (born Try.prog (call20 x f c)) w =
    .go (G (b20.at ⟨#[num x, .chan (some f), .chan (some c), undef, undef, undef, undef, undef, undef, undef, undef, undef, undef, undef, undef, undef, undef, undef, undef, undef], []⟩ [.code body20]) [bot]) w #[] := by
  simp [born, call20, stepG, unwind, callDeferred, invoke, callFunc, Try.func20, Try.f20, seen, GStep.after, G, Frame.enter, Frame.at, b20, baseD, bot, body20]

theorem stepG_deferB {P : Program} {main : Bool} {b : Frame} {a : Act} {k : List Item} {cs : List Frame} {w : World} {ops : Array Oper} {i : Nat} {rest : List Nat} {o : Oper} {xs : Array Operand} {ats : Array TypeId} (ho : ops[i]? = some o)
    (hw : Region.wanted o (yielded ops a.tmps) = true) (hk : b.kind ≠ .early) (hop : o.op = .defer { callee := .builtin .close, args := xs, argTypes := ats }) :
    stepG P main (G (b.at a (.inRegion ops (i :: rest) :: k)) cs) w =
      .go (G (b.at (Act.put ⟨a.tmps, { target := .builtin .close ats o.type (xs.map fun | .const _ => true | _ => false), args := xs.map a.eval } :: a.defers⟩ o.dst undef) (.inRegion ops rest :: k)) cs) w #[] := by
  generalize hd : ({ target := .builtin .close ats o.type (xs.map fun | .const _ => true | _ => false), args := xs.map a.eval } : Deferred) = d
  have hr : (execOp a.eval o).run P w = .ok (.defer d) w := by
    unfold execOp
    simp [hop, resolve, ← hd]
    intro z _
    cases z <;> rfl
  have he : (execOp a.eval o).events P w #[] = #[] := by
    unfold execOp
    simp [hop, resolve]
  have hfin : (b.at ⟨a.tmps, d :: a.defers⟩ (.inRegion ops (i :: rest) :: k)).finish undef = b.at (Act.put ⟨a.tmps, d :: a.defers⟩ o.dst undef) (.inRegion ops rest :: k) := by rw [Frame.finish_at, ho]; rfl
  have hk' : (b.kind == CallKind.early) = false := by simpa using hk
  rw [stepG_oper ho hw, ← hfin]
  simp [stepG.apply, hr, he, G, Frame.at, hk', GStep.after, seen_none]

section
variable {S : World → Prop} {Still : Loc → Prop} {B : Nat} {Stop : Goroutine → World → Prop} {x : Int} {f c : Nat}

/-- hand at its receive. -/
noncomputable def gAsk (x : Int) (f c : Nat) (j3 j4 j5 j6 j7 j9 r j12 j13 j14 j15 j16 j17 j18 j19 : Value) : Goroutine :=
  G (b20.at ⟨#[num x, .chan (some f), .chan (some c), j3, j4, j5, j6, j7, .chan (some c), j9, .chan (some f), r, j12, j13, j14, j15, j16, j17, j18, j19], [cl20 c]⟩ [.inRegion ops20r [1, 2, 3, 4, 5, 6], .code rest20, .inBlock 1, .inLoop L20, .inBlock 0]) [bot]
/-- hand at its send. -/
noncomputable def gOffer (x y : Int) (f c : Nat) (j3 j4 j5 j6 j7 j9 j10 r j12 j13 j14 j15 j17 j18 : Value) : Goroutine :=
  G (b20.at ⟨#[num x, .chan (some f), .chan (some c), j3, j4, j5, j6, j7, .chan (some c), j9, j10, r, j12, j13, j14, j15, .chan (some c), j17, j18, num y], [cl20 c]⟩ [.inRegion ops20s [4], .inBlock 1, .inLoop L20, .inBlock 0]) [bot]
/-- hand at its last word. -/
noncomputable def gShut (c : Nat) (T : Array Value) (k : List Item) : Goroutine := G { b20.at ⟨T, [cl20 c]⟩ k with mode := .returning } [bot]

set_option maxRecDepth 100000 in
theorem hand_birth (h : ∀ j3 j4 j5 j6 j7 j9 r j12 j13 j14 j15 j16 j17 j18 j19 w₁, S w₁ → Stop (gAsk x f c j3 j4 j5 j6 j7 j9 r j12 j13 j14 j15 j16 j17 j18 j19) w₁) : ∃ n, ∀ w, Goes Try.prog false (fun _ w₁ => S w₁) (DS Still B) Stop n (born Try.prog (call20 x f c)) w := by
  refine ⟨30, fun w => Goes.step rfl fun w₁ h₁ => ?_⟩
  rw [born20]
  refine ⟨ds_none _, ?_⟩
  simp only [body20, Try.f20, Option.getD_some]
  k_c stepG_seq
  k_reg
  k_in
  refine goes_oper_k rfl rfl (by decide) (fun K hK => ?_); go_simp; refine hK _ _ ⟨⟨rfl, fun e he => by (have hm := mem_listed he; simp [go_sem] at hm)⟩, ?_⟩; clear hK K
  k_in
  rw [stepG_deferB rfl rfl (by decide) rfl]
  refine ⟨ds_none _, ?_⟩
  walk_nrm
  k_c stepG_region_end
  k_c stepG_block
  k_c stepG_loop
  k_c stepG_block
  k_c stepG_seq
  k_reg
  k_in
  refine goes_oper_k rfl rfl (by decide) (fun K hK => ?_); go_simp; refine hK _ _ ⟨⟨rfl, fun e he => by (have hm := mem_listed he; simp [go_sem] at hm)⟩, ?_⟩; clear hK K
  exact Goes.stop fun w₂ h₂ => h _ _ _ _ _ _ _ _ _ _ _ _ _ _ _ _ h₂

set_option maxRecDepth 100000 in
theorem hand_again (h : ∀ j3 j4 j5 j6 j7 j9 r j12 j13 j14 j15 j16 j17 j18 j19 w₁, S w₁ → Stop (gAsk x f c j3 j4 j5 j6 j7 j9 r j12 j13 j14 j15 j16 j17 j18 j19) w₁) (j3 j4 j5 j6 j7 j9 j10 r j12 j13 j14 j15 j16 j17 j18 j19 : Value) :
    ∃ n, ∀ w, Goes Try.prog false (fun _ w₁ => S w₁) (DS Still B) Stop n (gGave x f c j3 j4 j5 j6 j7 j9 j10 r j12 j13 j14 j15 j16 j17 j18 j19) w := by
  refine ⟨30, fun w => ?_⟩
  simp only [gGave, gAsk, ops20s, ops20r, rest20, L20, body20, Try.f20, Option.getD_some] at h ⊢
  k_c stepG_region_end
  k_c stepG_inBlock
  k_c stepG_inLoop
  k_c stepG_block
  k_c stepG_seq
  k_reg
  k_in
  refine goes_oper_k rfl rfl (by decide) (fun K hK => ?_); go_simp; refine hK _ _ ⟨⟨rfl, fun e he => by (have hm := mem_listed he; simp [go_sem] at hm)⟩, ?_⟩; clear hK K
  exact Goes.stop fun w₂ h₂ => h _ _ _ _ _ _ _ _ _ _ _ _ _ _ _ _ h₂

set_option maxRecDepth 100000 in
theorem hand_took (v : Int) (h : ∀ j3 j4 j5 j6 j7 j9 j10 r j12 j13 j14 j15 j17 j18 w₁, S w₁ → Stop (gOffer x (IntKind.wrap .i64 (v + x)) f c j3 j4 j5 j6 j7 j9 j10 r j12 j13 j14 j15 j17 j18) w₁) (j3 j4 j5 j6 j7 j9 j10 j12 j13 j14 j15 j16 j17 j18 j19 : Value) :
    ∃ n, ∀ w, Goes Try.prog false (fun _ w₁ => S w₁) (DS Still B) Stop n (gTook x f c j3 j4 j5 j6 j7 j9 j10 (.tuple #[num v, .bool true]) j12 j13 j14 j15 j16 j17 j18 j19) w := by
  refine ⟨30, fun w => ?_⟩
  simp only [gTook, gOffer, ops20s, ops20r, rest20, L20, body20, Try.f20, Option.getD_some, num] at h ⊢
  k_in
  refine goes_oper_k rfl rfl (by decide) (fun K hK => ?_); go_simp; refine hK _ _ ⟨⟨rfl, fun e he => by (have hm := mem_listed he; simp [go_sem] at hm)⟩, ?_⟩; clear hK K
  k_in
  refine goes_oper_k rfl rfl (by decide) (fun K hK => ?_); go_simp; refine hK _ _ ⟨⟨rfl, fun e he => by (have hm := mem_listed he; simp [go_sem] at hm)⟩, ?_⟩; clear hK K
  k_in
  refine goes_oper_k rfl rfl (by decide) (fun K hK => ?_); go_simp; refine hK _ _ ⟨⟨rfl, fun e he => by (have hm := mem_listed he; simp [go_sem] at hm)⟩, ?_⟩; clear hK K
  k_in
  refine goes_oper_k rfl rfl (by decide) (fun K hK => ?_); go_simp; refine hK _ _ ⟨⟨rfl, fun e he => by (have hm := mem_listed he; simp [go_sem] at hm)⟩, ?_⟩; clear hK K
  k_in
  refine goes_oper_k rfl rfl (by decide) (fun K hK => ?_); go_simp; refine hK _ _ ⟨⟨rfl, fun e he => by (have hm := mem_listed he; simp [go_sem] at hm)⟩, ?_⟩; clear hK K
  k_c stepG_region_end
  k_c stepG_seq
  k_c stepG_seq
  k_reg
  k_in
  refine goes_oper_k rfl rfl (by decide) (fun K hK => ?_); go_simp; refine hK _ _ ⟨⟨rfl, fun e he => by (have hm := mem_listed he; simp [go_sem] at hm)⟩, ?_⟩; clear hK K
  k_in
  refine goes_oper_k rfl rfl (by decide) (fun K hK => ?_); go_simp; refine hK _ _ ⟨⟨rfl, fun e he => by (have hm := mem_listed he; simp [go_sem] at hm)⟩, ?_⟩; clear hK K
  k_c stepG_region_end
  k_in
  rw [stepG_cond (t := false) rfl]; simp only [goes_go, if_true, if_false, Bool.false_eq_true, ↓reduceIte]; refine ⟨ds_none _, ?_⟩
  k_c stepG_skip
  k_reg
  k_in
  refine goes_oper_k rfl rfl (by decide) (fun K hK => ?_); go_simp; refine hK _ _ ⟨⟨rfl, fun e he => by (have hm := mem_listed he; simp [go_sem] at hm)⟩, ?_⟩; clear hK K
  k_in
  refine goes_oper_k rfl rfl (by decide) (fun K hK => ?_); go_simp; refine hK _ _ ⟨⟨rfl, fun e he => by (have hm := mem_listed he; simp [go_sem] at hm)⟩, ?_⟩; clear hK K
  k_in
  refine goes_oper_k rfl rfl (by decide) (fun K hK => ?_); go_simp; refine hK _ _ ⟨⟨rfl, fun e he => by (have hm := mem_listed he; simp [go_sem] at hm)⟩, ?_⟩; clear hK K
  k_in
  refine goes_oper_k rfl rfl (by decide) (fun K hK => ?_); go_simp; refine hK _ _ ⟨⟨rfl, fun e he => by (have hm := mem_listed he; simp [go_sem] at hm)⟩, ?_⟩; clear hK K
  exact Goes.stop fun w₂ h₂ => h _ _ _ _ _ _ _ _ _ _ _ _ _ _ _ h₂

set_option maxRecDepth 100000 in
theorem hand_shut (h : ∀ T k w₁, S w₁ → Stop (gShut c T k) w₁) (j3 j4 j5 j6 j7 j9 j10 j12 j13 j14 j15 j16 j17 j18 j19 : Value) :
    ∃ n, ∀ w, Goes Try.prog false (fun _ w₁ => S w₁) (DS Still B) Stop n (gTook x f c j3 j4 j5 j6 j7 j9 j10 (.tuple #[zer, .bool false]) j12 j13 j14 j15 j16 j17 j18 j19) w := by
  refine ⟨30, fun w => ?_⟩
  simp only [gTook, gShut, ops20s, ops20r, rest20, L20, body20, Try.f20, Option.getD_some, num, zer] at h ⊢
  k_in
  refine goes_oper_k rfl rfl (by decide) (fun K hK => ?_); go_simp; refine hK _ _ ⟨⟨rfl, fun e he => by (have hm := mem_listed he; simp [go_sem] at hm)⟩, ?_⟩; clear hK K
  k_in
  refine goes_oper_k rfl rfl (by decide) (fun K hK => ?_); go_simp; refine hK _ _ ⟨⟨rfl, fun e he => by (have hm := mem_listed he; simp [go_sem] at hm)⟩, ?_⟩; clear hK K
  k_in
  refine goes_oper_k rfl rfl (by decide) (fun K hK => ?_); go_simp; refine hK _ _ ⟨⟨rfl, fun e he => by (have hm := mem_listed he; simp [go_sem] at hm)⟩, ?_⟩; clear hK K
  k_in
  refine goes_oper_k rfl rfl (by decide) (fun K hK => ?_); go_simp; refine hK _ _ ⟨⟨rfl, fun e he => by (have hm := mem_listed he; simp [go_sem] at hm)⟩, ?_⟩; clear hK K
  k_in
  refine goes_oper_k rfl rfl (by decide) (fun K hK => ?_); go_simp; refine hK _ _ ⟨⟨rfl, fun e he => by (have hm := mem_listed he; simp [go_sem] at hm)⟩, ?_⟩; clear hK K
  k_c stepG_region_end
  k_c stepG_seq
  k_c stepG_seq
  k_reg
  k_in
  refine goes_oper_k rfl rfl (by decide) (fun K hK => ?_); go_simp; refine hK _ _ ⟨⟨rfl, fun e he => by (have hm := mem_listed he; simp [go_sem] at hm)⟩, ?_⟩; clear hK K
  k_in
  refine goes_oper_k rfl rfl (by decide) (fun K hK => ?_); go_simp; refine hK _ _ ⟨⟨rfl, fun e he => by (have hm := mem_listed he; simp [go_sem] at hm)⟩, ?_⟩; clear hK K
  k_c stepG_region_end
  k_in
  rw [stepG_cond (t := true) rfl]; simp only [goes_go, if_true, if_false, Bool.false_eq_true, ↓reduceIte]; refine ⟨ds_none _, ?_⟩
  k_c stepG_ret'
  exact Goes.stop fun w₂ h₂ => h _ _ _ h₂
end

section
variable {C : Cfg}
theorem hand_take (hP : C.P = Try.prog) {p : Nat} {NV : Int → Goroutine → Prop} {NC : Goroutine → Prop} {x : Int} {f c : Nat} (hf : C.c p = f) (j3 j4 j5 j6 j7 j9 r j12 j13 j14 j15 j16 j17 j18 j19 : Value)
    (hv : ∀ v, NV v (gTook x f c j3 j4 j5 j6 j7 j9 (.chan (some f)) (.tuple #[num v, .bool true]) j12 j13 j14 j15 j16 j17 j18 j19)) (hc : NC (gTook x f c j3 j4 j5 j6 j7 j9 (.chan (some f)) (.tuple #[zer, .bool false]) j12 j13 j14 j15 j16 j17 j18 j19)) :
    AtTake C p NV NC (gAsk x f c j3 j4 j5 j6 j7 j9 r j12 j13 j14 j15 j16 j17 j18 j19) := by
  subst hf
  refine ⟨rfl, fun w _ => ?_, fun v => ?_, ?_⟩
  · rw [hP]
    unfold gAsk
    rw [stepG_comm (cases := #[rcase (C.c p) zer]) (blocking := true) (shape := .recv true) (w' := w) rfl rfl (by decide) (by simp [go_sem, execOp, rcase, Act.eval, zer, ops20r, L20, body20, Try.f20]), listed_none (by simp [go_sem, execOp, Act.eval, ops20r, L20, body20, Try.f20])]
    rfl
  · exact hv v
  · exact hc
theorem hand_give (hP : C.P = Try.prog) {p : Nat} {Next : Goroutine → Prop} {x y : Int} {f c : Nat} (hc : C.c p = c) (j3 j4 j5 j6 j7 j9 j10 r j12 j13 j14 j15 j17 j18 : Value)
    (hn : Next (gGave x f c j3 j4 j5 j6 j7 j9 j10 r j12 j13 j14 j15 (.chan (some c)) j17 j18 (num y))) :
    AtGive C p y Next (gOffer x y f c j3 j4 j5 j6 j7 j9 j10 r j12 j13 j14 j15 j17 j18) := by
  subst hc
  refine ⟨rfl, gOffer x y f (C.c p) j3 j4 j5 j6 j7 j9 j10 r j12 j13 j14 j15 j17 j18, .tuple #[], fun w _ => ?_, hn⟩
  · rw [hP]
    unfold gOffer
    rw [stepG_comm (cases := #[scase (C.c p) (num y) (.tuple #[])]) (blocking := true) (shape := .send) (w' := w) rfl rfl (by decide) (by simp [go_sem, execOp, scase, Act.eval, ops20s, rest20, L20, body20, Try.f20]), listed_none (by simp [go_sem, execOp, Act.eval, ops20s, rest20, L20, body20, Try.f20])]
theorem hand_close (hP : C.P = Try.prog) {p : Nat} {c : Nat} (hc : C.c p = c) (T : Array Value) (k : List Item) : AtClose C p (gShut c T k) := by
  subst hc
  refine ⟨rfl, rfl, G { b20.at ⟨T, []⟩ k with mode := .returning } [bot], 2, fun w s r _ h => ?_, ?_⟩
  · rw [hP]
    exact stepG_unwind_close rfl h loud20
  · rw [hP]
    refine .inr ⟨rfl, G bot [], fun w => ?_, .inr ⟨rfl, { G bot [] with status := .finished }, fun w => ?_, rfl⟩⟩
    · simp [G, stepG, unwind, doReturn, results, Frame.at, b20, baseD, bot, Try.func20, Try.f20, seen, GStep.after, goexitEntry]
    · simp [G, stepG, unwind, bot, goexitEntry, Frame.catches]
      rfl
end
end Go.Proofs.Ytdpagejckahkkaa.Net
