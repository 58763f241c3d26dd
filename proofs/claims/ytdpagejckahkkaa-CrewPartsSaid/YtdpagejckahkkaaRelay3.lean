/- crew.Relay: goroutine 0's own walk, on: what comes out of the chain is appended; and the whole. -/
import Derived.Test.YtdpagejckahkkaaRelay2
set_option linter.unusedSimpArgs false
set_option linter.unusedVariables false
namespace Go.Proofs.Ytdpagejckahkkaa.Net
open Go Go.Conc Go.RowKit

/-- What goroutine 0 knows while it empties the chain. -/
structure AF (I : RIn) (out : Value) (xs : List Int) (w : World) : Prop where
  kr : KR I.W I.W.heap.size I.a0 I.vs.length I.cap w
  own : w.ownsRow (I.W.heap.size + 3 + I.ys.length) 3 1 out xs.length (xs.map num)
  size : I.W.heap.size + 3 + I.ys.length ≤ w.heap.size
  most : w.heap.size ≤ I.W.heap.size + 3 + I.ys.length + 2 * xs.length
theorem AF.rely {I : RIn} {out : Value} {xs : List Int} {m : Nat} {w w₁ : World} (h : AF I out xs w) (hm : m = I.ys.length + 1) (r : AsideN (cN I.W.heap.size) m w w₁) : AF I out xs w₁ := by
  subst hm
  refine ⟨h.kr.aside r, ⟨h.own.1, ?_⟩, by rw [r.size]; exact h.size, by rw [r.size]; exact h.most⟩
  rcases h.own.2 with e | ⟨g, cap, cur, e, hg, hh, x⟩
  · exact .inl e
  · exact .inr ⟨g, cap, cur, e, hg, (r.block g fun p hp => by unfold cN; split <;> omega).trans hh, x⟩
theorem KR.grown {W : World} {N : Nat} {a0 : Option Addr} {len cap : Nat} {w w' : World} {row : Option Nat} (h : KR W N a0 len cap w) (hg : w.grownBy w' row) (hs : N + 3 ≤ w.heap.size) (hr : ∀ k, row = some k → N + 3 ≤ k) : KR W N a0 len cap w' :=
  ⟨h.low.grown hg (by omega) (fun k hk => by have := hr k hk; omega), hg.cell h.box (fun e => by have : N + 3 ≤ N := hr _ e.symm; omega), hg.cell h.fst (fun e => by have : N + 3 ≤ N + 2 := hr _ e.symm; omega)⟩
theorem evM_append {S : Loc → Prop} {N : Nat} {a0 : Option Addr} {B src : Nat} {own : Option Nat} {e : Event} (h : EvA src own e) (new : ∀ x : Addr, N + 3 ≤ x.block → ¬ S (.cell x)) (ha : ∀ z, a0 = some z → z.block < N) (hs : N + 3 ≤ src) (hB : src < B) (ho : ∀ k, own = some k → N + 3 ≤ k ∧ k < B) :
    EvM S (StillR N a0) B e := by
  rcases h with ⟨ad, hl, hc⟩ | ⟨m, rfl, hm⟩
  · have hbl : N + 3 ≤ ad.block ∧ ad.block < B := by
      rcases hc with ⟨_, e⟩ | e
      · omega
      · exact ho _ e.symm
    obtain ⟨loc, wr, sy⟩ := e
    simp only at hl
    subst hl
    refine ⟨fun x hx => ?_, by simp, by simp, ?_⟩
    · simp only [ofEvent_cell0, MemAct.touch?, Option.some.injEq] at hx
      subst hx
      refine ⟨fun hs' => absurd hs' (new _ hbl.1), fun hst => ?_⟩
      rcases hst with ⟨ad', e', h'⟩ | ⟨p, e'⟩
      · cases e'
        rcases h' with h' | h' | ⟨z, hz, h'⟩
        · omega
        · omega
        · have := ha z hz; omega
      · cases e'
    · rw [ofEvent_cell0]; exact hbl.2
  · refine ⟨fun x hx => ?_, fun e => ?_, fun e => ?_, ?_⟩
    · cases m <;> simp [MemAct.ofEvent, MemAct.touch?] at hx <;> simp [Neutral] at hm
    · cases e; simp [Neutral] at hm
    · cases e; simp [Neutral] at hm
    · cases m <;> simp [MemAct.ofEvent, MemAct.low] <;> simp [Neutral] at hm

section
variable (I : RIn) (cs : List Frame)
variable {S : Loc → Prop} {b B m : Nat} {Stop : Goroutine → World → Prop}


set_option maxRecDepth 100000 in
theorem got_goes (hI : I.Ok S) (hm : m = I.ys.length + 1) (hB : I.W.heap.size + 5 + I.ys.length + 2 * I.vs.length ≤ B) (out : Value) (xs : List Int) (v : Int) (hx : xs.length + 1 ≤ I.vs.length)
    (h : ∀ out j3 j4 j6 j7 j8 j9 j11 j12 j13 j14 j15 j16 j17 j18 j19 j20 j21 j22 j23 j24 j25 j26 j27 j28 j29 j31 j32 j33 j34 j35 j36 j37 j38 w, AF I out (xs ++ [v]) w → Stop (gRecv I cs out j3 j4 j6 j7 j8 j9 j11 j12 j13 j14 j15 j16 j17 j18 j19 j20 j21 j22 j23 j24 j25 j26 j27 j28 j29 j31 j32 j33 j34 j35 j36 j37 j38) w) (j3 j4 j6 j7 j8 j9 j11 j12 j13 j14 j15 j16 j17 j18 j19 j20 j21 j22 j23 j24 j25 j26 j27 j28 j29 j32 j33 j34 j35 j36 j37 j38 : Value) (w : World) (hF : AF I out xs w) :
    Goes Try.prog true (AsideN (cN I.W.heap.size) m) (DM (relay I S b B) m) Stop 60 (gGot I cs out (.tuple #[num v, .bool true]) j3 j4 j6 j7 j8 j9 j11 j12 j13 j14 j15 j16 j17 j18 j19 j20 j21 j22 j23 j24 j25 j26 j27 j28 j29 j32 j33 j34 j35 j36 j37 j38) w := by
  have new : ∀ x : Addr, I.W.heap.size + 3 ≤ x.block → ¬ S (.cell x) := fun x hx hs => by have : x.block < I.W.heap.size := hI.new _ hs; omega
  have hvl := hI.vlen
  simp only [gRecv, gGot, ops8r, rest8b, L8b, tail8, body8, Try.f8, Option.getD_some, num] at h ⊢
  refine Goes.step rfl (fun w₁ h₁ => ?_); replace hF := hF.rely hm h₁; clear h₁; refine goes_oper_k rfl rfl (by decide) (fun K hK => ?_); go_simp; refine hK _ _ ⟨dm_still _ (fun e he => by (have hm := mem_listed he; simp [go_sem, *] at hm)), ?_⟩; clear hK K; try walk_nrm
  refine Goes.step rfl (fun w₁ h₁ => ?_); rw [stepG_region_end]; simp only [goes_go]; refine ⟨dm_none _, ?_⟩; replace hF := hF.rely hm h₁; clear h₁
  refine Goes.step rfl (fun w₁ h₁ => ?_); rw [stepG_seq]; simp only [goes_go]; refine ⟨dm_none _, ?_⟩; replace hF := hF.rely hm h₁; clear h₁
  refine Goes.step rfl (fun w₁ h₁ => ?_); rw [stepG_cond (t := true) rfl]; simp only [goes_go, if_true, if_false, Bool.false_eq_true, ↓reduceIte]; refine ⟨dm_none _, ?_⟩; replace hF := hF.rely hm h₁; clear h₁
  refine Goes.step rfl (fun w₁ h₁ => ?_); rw [stepG_skip]; simp only [goes_go]; refine ⟨dm_none _, ?_⟩; replace hF := hF.rely hm h₁; clear h₁
  refine Goes.step rfl (fun w₁ h₁ => ?_); rw [stepG_block]; simp only [goes_go]; refine ⟨dm_none _, ?_⟩; replace hF := hF.rely hm h₁; clear h₁
  refine Goes.step rfl (fun w₁ h₁ => ?_); rw [stepG_seq]; simp only [goes_go]; refine ⟨dm_none _, ?_⟩; replace hF := hF.rely hm h₁; clear h₁
  refine Goes.step rfl (fun w₁ h₁ => ?_); rw [stepG_region]; simp only [goes_go, List.size_toArray, List.length_cons, List.length_nil, Nat.reduceAdd, Nat.zero_add, List.range, List.range.loop]; refine ⟨dm_none _, ?_⟩; replace hF := hF.rely hm h₁; clear h₁
  refine Goes.step rfl (fun w₁ h₁ => ?_); replace hF := hF.rely hm h₁; clear h₁; refine goes_oper_k rfl rfl (by decide) (fun K hK => ?_); go_simp; refine hK _ _ ⟨dm_still _ (fun e he => by (have hm := mem_listed he; simp [go_sem, *] at hm)), ?_⟩; clear hK K; try walk_nrm
  refine Goes.step rfl (fun w₁ h₁ => ?_); replace hF := hF.rely hm h₁; clear h₁; refine goes_oper_k rfl rfl (by decide) (fun K hK => ?_); go_simp; refine hK _ _ ⟨dm_still _ (fun e he => by (have hm := mem_listed he; simp [go_sem, *] at hm)), ?_⟩; clear hK K; try walk_nrm
  refine Goes.step rfl (fun w₁ h₁ => ?_); rw [stepG_region_end]; simp only [goes_go]; refine ⟨dm_none _, ?_⟩; replace hF := hF.rely hm h₁; clear h₁
  refine Goes.step rfl (fun w₁ h₁ => ?_); rw [stepG_region]; simp only [goes_go, List.size_toArray, List.length_cons, List.length_nil, Nat.reduceAdd, Nat.zero_add, List.range, List.range.loop]; refine ⟨dm_none _, ?_⟩; replace hF := hF.rely hm h₁; clear h₁
  refine Goes.step rfl (fun w₁ h₁ => ?_); replace hF := hF.rely hm h₁; clear h₁; refine goes_oper_k rfl rfl (by decide) (fun K hK => ?_); go_simp; refine hK _ _ ⟨dm_still _ (fun e he => by (have hm := mem_listed he; simp [go_sem, *] at hm)), ?_⟩; clear hK K; try walk_nrm
  refine Goes.step rfl (fun w₁ h₁ => ?_); replace hF := hF.rely hm h₁; clear h₁; refine goes_oper_k rfl rfl (by decide) (fun K hK => ?_); go_simp; refine hK _ _ ⟨dm_still _ (fun e he => by (have hm := mem_listed he; simp [go_sem, *] at hm)), ?_⟩; clear hK K; try walk_nrm
  refine Goes.step rfl (fun w₁ h₁ => ?_); replace hF := hF.rely hm h₁; clear h₁
  have hs1 := hF.size
  have hs2 := hF.most
  refine goes_oper_k rfl rfl (by decide) (fun K hK => ?_); go_simp
  refine hK _ _ ⟨⟨fun k => KR.alloc k _ (by omega), fun p hp => heap_alloc_old _ _ _ (by show cN I.W.heap.size p < _; unfold cN; split <;> omega), fun e he => by (have hm := mem_listed he; simp [go_sem] at hm)⟩, ?_⟩
  clear hK K
  have hnew : (w₁.alloc (.cells #[.int .i64 v] 3)).cell? ⟨w₁.heap.size, 0, none⟩ = some (.int .i64 v) := by rw [World.cell?_alloc_at _ _ _ _ rfl]; rfl
  have hkr := hF.kr.alloc (.cells #[.int .i64 v] 3) (by omega)
  have hown := hF.own.alloc (.cells #[.int .i64 v] 3)
  have hsz : (w₁.alloc (.cells #[.int .i64 v] 3)).heap.size = w₁.heap.size + 1 := by simp
  clear hF
  generalize w₁.alloc (.cells #[.int .i64 v] 3) = w₂ at hnew hkr hown hsz ⊢
  refine Goes.step rfl (fun w₃ h₃ => ?_)
  have hF3 : AF I out xs w₃ ∨ True := .inr trivial
  replace hkr := hkr.aside h₃
  have hown3 : w₃.ownsRow (I.W.heap.size + 3 + I.ys.length) 3 1 out xs.length (xs.map num) := by
    refine ⟨hown.1, ?_⟩
    rcases hown.2 with e | ⟨g, cap, cur, e, hg, hh, x⟩
    · exact .inl e
    · exact .inr ⟨g, cap, cur, e, hg, (h₃.block g fun p hp => by unfold cN; split <;> omega).trans hh, x⟩
  have hnew3 : w₃.cell? ⟨w₁.heap.size, 0, none⟩ = some (.int .i64 v) := (World.cell?_of_block (h₃.block _ fun p hp => by show w₁.heap.size ≠ _; unfold cN; split <;> omega)).trans hnew
  have hsz3 : w₃.heap.size = w₁.heap.size + 1 := h₃.size.trans hsz
  clear h₃ hown hnew hsz hF3
  have hnews : ∀ (j : Nat) u, [Value.int .i64 v][j]? = some u → w₃.cell? ((⟨w₁.heap.size, 0, none⟩ : Addr).add j) = some u := by
    intro j u hj
    match j, hj with
    | 0, hj => simp at hj; subst hj; simpa [Addr.add] using hnew3
  obtain ⟨out', w₄, hr, hown', hgrow, hmost, _, hevs⟩ := append_ints w₃ (I.W.heap.size + 3 + I.ys.length) 22 out xs.length (xs.map num) hown3 ⟨w₁.heap.size, 0, none⟩ 1 1 [.int .i64 v] rfl hnews (fun u hu => by simp at hu; subst hu; rfl) (by omega) (by omega)
  have hol : ∀ k, out.ownBlock = some k → I.W.heap.size + 3 + I.ys.length ≤ k ∧ k < w₃.heap.size := hown3.lt
  refine goes_oper_k rfl rfl (by decide) (fun K hK => ?_)
  refine uponK_append (.tmp 34) (.tmp 36) 22 rfl rfl rfl hr (hK _ _ ⟨⟨fun k => KR.grown k hgrow (by omega) (fun k hk => by have := (hol k hk).1; omega), fun p hp => hgrow.block _ (by show cN I.W.heap.size p < _; unfold cN; split <;> omega) (fun e => by
      have hk := (hol _ e.symm).1
      have : cN I.W.heap.size p < I.W.heap.size + 3 + I.ys.length := by unfold cN; split <;> omega
      have e' : (relay I S b B).c p = cN I.W.heap.size p := rfl
      omega), fun e he => ?_⟩, ?_⟩)
  · have hm' := mem_listed he
    rw [events_append_op (.tmp 34) (.tmp 36) 22 rfl rfl rfl] at hm'
    exact evM_append (hevs e hm') new (fun z hz => (hI.va z hz).1) (by show _ ≤ w₁.heap.size; omega) (by show w₁.heap.size < B; omega) (fun k hk => by have := hol k hk; show _ ∧ k < B; omega)
  clear hK K
  have hF : AF I out' (xs ++ [v]) w₄ := ⟨hkr.grown hgrow (by omega) (fun k hk => by have := (hol k hk).1; omega), by simpa [num] using hown', Nat.le_trans (by omega) hgrow.size, by simp only [List.length_append, List.length_cons, List.length_nil]; omega⟩
  clear hr hown' hgrow hevs hnews hnew3 hown3 hkr hmost hol
  try walk_nrm
  refine Goes.step rfl (fun w₁ h₁ => ?_); replace hF := hF.rely hm h₁; clear h₁; refine goes_oper_k rfl rfl (by decide) (fun K hK => ?_); go_simp; refine hK _ _ ⟨dm_still _ (fun e he => by (have hm := mem_listed he; simp [go_sem, *] at hm)), ?_⟩; clear hK K; try walk_nrm
  refine Goes.step rfl (fun w₁ h₁ => ?_); rw [stepG_region_end]; simp only [goes_go]; refine ⟨dm_none _, ?_⟩; replace hF := hF.rely hm h₁; clear h₁
  refine Goes.step rfl (fun w₁ h₁ => ?_); rw [stepG_inBlock]; simp only [goes_go]; refine ⟨dm_none _, ?_⟩; replace hF := hF.rely hm h₁; clear h₁
  refine Goes.step rfl (fun w₁ h₁ => ?_); rw [stepG_inLoop]; simp only [goes_go]; refine ⟨dm_none _, ?_⟩; replace hF := hF.rely hm h₁; clear h₁
  refine Goes.step rfl (fun w₁ h₁ => ?_); rw [stepG_seq]; simp only [goes_go]; refine ⟨dm_none _, ?_⟩; replace hF := hF.rely hm h₁; clear h₁
  refine Goes.step rfl (fun w₁ h₁ => ?_); rw [stepG_region]; simp only [goes_go, List.size_toArray, List.length_cons, List.length_nil, Nat.reduceAdd, Nat.zero_add, List.range, List.range.loop]; refine ⟨dm_none _, ?_⟩; replace hF := hF.rely hm h₁; clear h₁
  exact Goes.stop fun w₂ h₂ => h _ _ _ _ _ _ _ _ _ _ _ _ _ _ _ _ _ _ _ _ _ _ _ _ _ _ _ _ _ _ _ _ _ _ _ (hF.rely hm h₂)
end
end Go.Proofs.Ytdpagejckahkkaa.Net
