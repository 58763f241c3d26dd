/- What is handed in: slices of numbers; what a run leaves. -/
import Derived.Test.YtdpagejckahkkaaLaw
import Derived.Test.YtdpagejckahkkaaRows
import Derived.Conc.LeavingOf
set_option linter.unusedSimpArgs false
set_option linter.unusedVariables false
namespace Go.Proofs.Ytdpagejckahkkaa
open Go Go.Conc Go.RowKit Net Go.ChangeShapes Go.WideShapes Go.ChangeAt

theorem try_own : ownKnob Try.prog.godebug = none := by kernel_rfl
theorem try_laid : laidOutB Try.prog = true := by kernel_rfl
theorem try_cells3 : Try.prog.cellsOf 3 = 1 := by kernel_rfl
theorem try_bytes3 : Try.prog.bytesOf 3 = 8 := by kernel_rfl

/-- A slice of ints that is handed in. -/
theorem open_arg {H : Type} {enc : TypeId × Value → H} {W : World} {a0 : Option Addr} {len cap : Nat} {d : DataW H} {p : List MemPlace} (h : DataW.Trod enc Try.prog W 0 (fun _ => true) true 22 (.slice a0 len cap) d p) (hlt : ∀ x ∈ p, x.block < W.heap.size)
    (hsz : ∀ elems spare, d = .slice elems spare → (elems.length + spare.length) * 8 ≤ reachBytes) :
    ∃ xs : List Int, IntsAt (fun _ => False) W (.slice a0 len cap) xs ∧ (∀ k, Value.ownBlock (.slice a0 len cap) = some k → xs ≠ [] → k < W.heap.size) ∧ xs.length * 8 ≤ 140737488351232 ∧ ∀ x ∈ xs, InR x := by
  obtain ⟨fuel, hf⟩ := h
  rcases open_ints Try.underlying22 Try.underlying3 try_cells3 hf with ⟨hcs, hx⟩ | ⟨a, len', cap', zs, hcs, _, hl, hm, hz, hx, hcell, hwz⟩
  · simp [Value.cells] at hcs
    obtain ⟨rfl, rfl, rfl⟩ := hcs
    exact ⟨[], ⟨none, 0, rfl, (fun j u hj => by simp at hj), (fun ad h => by cases h), (fun _ => rfl), by simp⟩, (fun k hk => by cases hk), by simp, by simp⟩
  · simp [Value.cells] at hcs
    obtain ⟨rfl, rfl, rfl⟩ := hcs
    simp only [Prod.mk.injEq] at hx
    obtain ⟨rfl, rfl⟩ := hx
    simp only [if_true] at hz
    have hlen : (zs.take len).length = len := by simp; omega
    have hs := hsz _ _ rfl
    simp only [lits, List.length_map, List.length_take, List.length_drop, reachBytes] at hs
    refine ⟨zs.take len, ⟨some a, cap, by rw [hlen], fun j u hj => ⟨a, rfl, ?_⟩, (fun _ _ _ _ => id), (fun h => by cases h), by rw [hlen]; omega⟩, fun k hk hne => ?_, by rw [hlen]; omega, fun x hx => ?_⟩
    · rw [List.getElem?_take] at hj
      split at hj
      · obtain ⟨hj', rfl⟩ := List.getElem?_eq_some_iff.1 hj
        rw [hcell j hj']
        simp [num, List.getD, hj']
      · cases hj
    · have hk : a.block = k := Option.some.inj hk
      have hpos : 0 < len := by
        rcases Nat.eq_zero_or_pos len with rfl | h
        · exact absurd (by simp) hne
        · exact h
      obtain ⟨b, off, spot⟩ := a
      subst hk
      exact hlt (.cell b off) (MemPlace.mem_row.2 ⟨0, by omega, by simp⟩)
    · have := hwz x (List.mem_of_mem_take hx)
      simp [Lit.wf, IntKind.min, IntKind.max, IntKind.signed, IntKind.bits] at this
      unfold InR
      omega

/-- What the run leaves. -/
def PostW (W : World) (v : Value) (w' : World) : Prop := v = .bool true ∧ Below W.heap.size W w'
theorem below_grown {W w' : World} (h : W.grownBy w' none) : Below W.heap.size W w' := ⟨h.os, h.tape, h.output, h.size, fun k hk => h.block k hk (by simp)⟩
theorem ints_len {S : Loc → Prop} {w : World} {a0 : Option Addr} {len cap : Nat} {xs : List Int} (h : IntsAt S w (.slice a0 len cap) xs) : xs.length = len := by
  obtain ⟨_, _, e, _⟩ := h
  cases e
  rfl
/-- A slice that is handed in has its block. -/
theorem okWide_low {t e : TypeId} {P : Program} {W : World} {r : Go.Reach} {base : Nat} {a0 : Option Addr} {len cap : Nat} (ht : P.underlying t = some (.slice e)) (h : Value.okWide P W r base t (.slice a0 len cap)) : ∀ k, Value.ownBlock (.slice a0 len cap) = some k → k < W.heap.size := by
  intro k hk
  cases a0 with
  | none => cases hk
  | some a =>
    obtain rfl : a.block = k := Option.some.inj hk
    simp only [Value.okWide, ht, Cell.okWide, Cell.ok] at h
    obtain ⟨_, _, _, _, row, cells, hs, _⟩ := h
    unfold World.shape? at hs
    split at hs
    · rename_i c elem f he
      exact (Array.getElem?_eq_some_iff.1 he).1
    · cases hs
end Go.Proofs.Ytdpagejckahkkaa
