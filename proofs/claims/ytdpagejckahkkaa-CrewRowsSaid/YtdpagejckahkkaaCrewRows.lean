/- CrewRows returns true: a row behind a row is one row; in a row of none the values are us they were; the order of the adds says nothing. -/
import Derived.Test.YtdpagejckahkkaaHold
import Derived.Test.YtdpagejckahkkaaArgs
set_option linter.unusedSimpArgs false
set_option linter.unusedVariables false
set_option maxRecDepth 100000
namespace Go.Proofs.Ytdpagejckahkkaa
open Go Go.Conc Go.RowKit Net Go.ChangeShapes Go.WideShapes Go.ChangeAt

noncomputable def body6 : Code := Try.f6.body.getD .skip

set_option maxHeartbeats 8000000 in
theorem crewRows_reach (W : World) {a0 b0 c0 : Option Addr} {ca cb cc : Nat} {vs us bs : List Int} (hx : Held (fun _ => False) W (.slice a0 vs.length ca) vs) (hy : Held (fun _ => False) W (.slice b0 us.length cb) us) (hz : Held (fun _ => False) W (.slice c0 bs.length cc) bs)
    (hl1 : vs.length * 8 ≤ 140737488351232) (hl2 : us.length * 8 ≤ 140737488351232) (hl3 : bs.length * 8 ≤ 140737488351232) (hr : ∀ v ∈ vs, InR v) :
    Net.Reach Try.prog (fun _ => False) (G ((base 6).at ⟨#[.slice a0 vs.length ca, .slice b0 us.length cb, .slice c0 bs.length cc, undef, undef, undef, undef, undef, undef, undef, undef, undef, undef, undef, undef, undef, undef, undef, undef, undef, undef, undef, undef, undef, undef, undef, undef, undef, undef, undef, undef, undef, undef, undef, undef, undef, undef, undef, undef, undef, undef, undef, undef, undef, undef, undef, undef, undef, undef, undef, undef, undef, undef], []⟩ [.code body6]) []) W (AtLast Try.prog (PostW W)) := by
  have ew : IntKind.i64.wrap ((us.length : Int) + (bs.length : Int)) = ((us.length + bs.length : Nat) : Int) := by rw [IntKind.wrap_i64]; omega
  have e1 := Lib.hid (relay_relay (us := us) (bs := bs) hr)
  have e2 := Lib.hid (relay_comm (us := us) (bs := bs) hr)
  have e3 := Lib.hid (relay_nil hr)
  have HL1 := Lib.hid hl1
  have HX := Lib.hid hx
  have HY := Lib.hid hy
  have HZ := Lib.hid hz
  clear hx hy hz hr hl1 hl2 hl3
  simp only [body6, Try.f6, Option.getD_some]
  repeat (first
      | refine r_end ?_ | refine r_skip ?_ | (refine r_region ?_; simp only [List.size_toArray, List.length_cons, List.length_nil, Nat.reduceAdd, Nat.zero_add, List.range, List.range.loop])
      | refine r_seq ?_
      | (refine r_op rfl rfl (by decide) (fun w₁ h₁ K hK => ?_); obtain ⟨dd, hdd⟩ := h₁; subst hdd; (try simp only [at_at', alloc_at']); go_simp
         refine hK _ _ ⟨fun e he => (by have hm := mem_listed he; simp [go_sem] at hm), ?_⟩; clear hK K; try walk_nrm))
  refine r_callx (alive_calls (w := W.at _) (fun l h => h.elim)) rfl rfl (by decide) rfl (by simp only [List.map_toArray, List.map_nil]) (fun S v w0 hp => ?_)
  obtain ⟨rfl, m0, g0⟩ := hp
  have g0 : W.grownBy w0 none := ⟨g0.os, g0.tape, g0.output, g0.size, g0.block⟩
  have m0 : More (fun _ => False) S W w0 := m0
  have hS0 : SL S w0 := m0.sl (fun l h => h.elim) g0.size
  have hS0' := Lib.hid hS0
  have hx0 := Lib.hid (HX.out.shun g0 m0)
  have hy0 := Lib.hid (HY.out.shun g0 m0)
  have hz0 := Lib.hid (HZ.out.shun g0 m0)
  have hG0 := Lib.hid g0
  clear HX HY HZ m0 g0 hS0
  have hS0 := hS0'
  clear hS0'
  try walk_nrm
  by_cases hgt : 64 < us.length + bs.length
  · have hgt : (64 : Int) < ((us.length + bs.length : Nat) : Int) := by omega
    repeat (first
      | refine r_end ?_ | refine r_skip ?_ | (refine r_region ?_; simp only [List.size_toArray, List.length_cons, List.length_nil, Nat.reduceAdd, Nat.zero_add, List.range, List.range.loop])
      | (refine r_cond (t := true) (by simp [Act.eval]; omega) ?_; simp only [if_true, if_false, Bool.false_eq_true, ↓reduceIte])
      | refine r_seq ?_
      | (refine r_op rfl rfl (by decide) (fun w₁ h₁ K hK => ?_); obtain ⟨dd, hdd⟩ := h₁; subst hdd; (try simp only [at_at', alloc_at']); go_simp
         refine hK _ _ ⟨fun e he => (by have hm := mem_listed he; simp [go_sem] at hm), ?_⟩; clear hK K; try walk_nrm))
    refine r_ret ?_
    refine .here ⟨rfl, fun w₁ r => ⟨.bool true, ?_, rfl, ?_⟩⟩
    · simp [G, stepG, unwind, doReturn, results, Frame.at, base, Try.func6, Try.f6, seen, GStep.after]
    · obtain ⟨d, rfl⟩ := r
      exact below_grown (grown_at (grown_at hG0.out _) _)
  · have hle := Lib.hid (show us.length + bs.length ≤ 64 by omega)
    have hgt : ¬ ((64 : Int) < ((us.length + bs.length : Nat) : Int)) := by omega
    repeat (first
      | refine r_end ?_ | refine r_skip ?_ | (refine r_region ?_; simp only [List.size_toArray, List.length_cons, List.length_nil, Nat.reduceAdd, Nat.zero_add, List.range, List.range.loop])
      | (refine r_cond (t := false) (by simp [Act.eval]; omega) ?_; simp only [if_true, if_false, Bool.false_eq_true, ↓reduceIte])
      | refine r_seq ?_
      | (refine r_op rfl rfl (by decide) (fun w₁ h₁ K hK => ?_); obtain ⟨dd, hdd⟩ := h₁; subst hdd; (try simp only [at_at', alloc_at']); go_simp
         refine hK _ _ ⟨fun e he => (by have hm := mem_listed he; simp [go_sem] at hm), ?_⟩; clear hK K; try walk_nrm))
    refine r_callx (relay_held (w := w0.at _) (hx0.out.kept (rel_grown ⟨_, rfl⟩ none)) (hy0.out.kept (rel_grown ⟨_, rfl⟩ none)) (by have := HL1.out; omega) (by have := hle.out; omega) (hS0.out.up (Nat.le_refl _))) rfl rfl (by decide) rfl (by simp only [List.map_toArray, List.map_cons, List.map_nil]; rfl) (fun S' p w1 hp => ?_)
    obtain ⟨hS', hn, hg⟩ := hp
    have hS' := hS'.symm; subst hS'
    have hg : w0.grownBy w1 none := ⟨hg.os, hg.tape, hg.output, hg.size, hg.block⟩
    have hp1 := Lib.hid hn
    have hS1 := Lib.hid (hS0.out.up hg.size)
    have hG1 := Lib.hid (grown_trans hG0.out hg)
    have hx1 := Lib.hid (hx0.out.kept hg)
    have hy1 := Lib.hid (hy0.out.kept hg)
    have hz1 := Lib.hid (hz0.out.kept hg)
    clear hn hg hS0 hG0 hx0 hy0 hz0
    try walk_nrm
    repeat (first
      | refine r_end ?_ | refine r_skip ?_ | (refine r_region ?_; simp only [List.size_toArray, List.length_cons, List.length_nil, Nat.reduceAdd, Nat.zero_add, List.range, List.range.loop])
      | refine r_seq ?_
      | (refine r_op rfl rfl (by decide) (fun w₁ h₁ K hK => ?_); obtain ⟨dd, hdd⟩ := h₁; subst hdd; (try simp only [at_at', alloc_at']); go_simp
         refine hK _ _ ⟨fun e he => (by have hm := mem_listed he; simp [go_sem] at hm), ?_⟩; clear hK K; try walk_nrm))
    refine r_callx (relay_held (w := w1.at _) (hp1.out.kept (rel_grown ⟨_, rfl⟩ none)) (hz1.out.kept (rel_grown ⟨_, rfl⟩ none)) (by have := HL1.out; have := relayL_le vs us; omega) (by have := hle.out; omega) (hS1.out.up (Nat.le_refl _))) rfl rfl (by decide) rfl (by simp only [List.map_toArray, List.map_cons, List.map_nil]; rfl) (fun S' q w2 hp => ?_)
    obtain ⟨hS', hn, hg⟩ := hp
    have hS' := hS'.symm; subst hS'
    have hg : w1.grownBy w2 none := ⟨hg.os, hg.tape, hg.output, hg.size, hg.block⟩
    have hq2 := Lib.hid hn
    have hS2 := Lib.hid (hS1.out.up hg.size)
    have hG2 := Lib.hid (grown_trans hG1.out hg)
    have hx2 := Lib.hid (hx1.out.kept hg)
    have hy2 := Lib.hid (hy1.out.kept hg)
    have hz2 := Lib.hid (hz1.out.kept hg)
    have hp2 := Lib.hid (hp1.out.kept hg)
    clear hn hg hS1 hG1 hx1 hy1 hz1 hp1
    try walk_nrm
    repeat (first
      | refine r_end ?_ | refine r_skip ?_ | (refine r_region ?_; simp only [List.size_toArray, List.length_cons, List.length_nil, Nat.reduceAdd, Nat.zero_add, List.range, List.range.loop])
      | refine r_seq ?_
      | (refine r_op rfl rfl (by decide) (fun w₁ h₁ K hK => ?_); obtain ⟨dd, hdd⟩ := h₁; subst hdd; (try simp only [at_at', alloc_at']); go_simp
         refine hK _ _ ⟨fun e he => (by have hm := mem_listed he; simp [go_sem] at hm), ?_⟩; clear hK K; try walk_nrm))
    refine r_callx (joined_held (w := w2.at _) (hy2.out.kept (rel_grown ⟨_, rfl⟩ none)) (hz2.out.kept (rel_grown ⟨_, rfl⟩ none)) (by have := hle.out; omega) (hS2.out.up (Nat.le_refl _))) rfl rfl (by decide) rfl (by simp only [List.map_toArray, List.map_cons, List.map_nil]; rfl) (fun S' j w3 hp => ?_)
    obtain ⟨hS', hn, hg⟩ := hp
    have hS' := hS'.symm; subst hS'
    have hg : w2.grownBy w3 none := ⟨hg.os, hg.tape, hg.output, hg.size, hg.block⟩
    have hj3 := Lib.hid hn
    have hS3 := Lib.hid (hS2.out.up hg.size)
    have hG3 := Lib.hid (grown_trans hG2.out hg)
    have hx3 := Lib.hid (hx2.out.kept hg)
    have hy3 := Lib.hid (hy2.out.kept hg)
    have hz3 := Lib.hid (hz2.out.kept hg)
    have hp3 := Lib.hid (hp2.out.kept hg)
    have hq3 := Lib.hid (hq2.out.kept hg)
    clear hn hg hS2 hG2 hx2 hy2 hz2 hp2 hq2
    try walk_nrm
    repeat (first
      | refine r_end ?_ | refine r_skip ?_ | (refine r_region ?_; simp only [List.size_toArray, List.length_cons, List.length_nil, Nat.reduceAdd, Nat.zero_add, List.range, List.range.loop])
      | refine r_seq ?_
      | (refine r_op rfl rfl (by decide) (fun w₁ h₁ K hK => ?_); obtain ⟨dd, hdd⟩ := h₁; subst hdd; (try simp only [at_at', alloc_at']); go_simp
         refine hK _ _ ⟨fun e he => (by have hm := mem_listed he; simp [go_sem] at hm), ?_⟩; clear hK K; try walk_nrm))
    refine r_callx (relay_held (w := w3.at _) (hx3.out.kept (rel_grown ⟨_, rfl⟩ none)) (hj3.out.kept (rel_grown ⟨_, rfl⟩ none)) (by have := HL1.out; omega) (by have := hle.out; simp; omega) (hS3.out.up (Nat.le_refl _))) rfl rfl (by decide) rfl (by simp only [List.map_toArray, List.map_cons, List.map_nil]; rfl) (fun S' r w4 hp => ?_)
    obtain ⟨hS', hn, hg⟩ := hp
    have hS' := hS'.symm; subst hS'
    have hg : w3.grownBy w4 none := ⟨hg.os, hg.tape, hg.output, hg.size, hg.block⟩
    have hr4 := Lib.hid hn
    have hS4 := Lib.hid (hS3.out.up hg.size)
    have hG4 := Lib.hid (grown_trans hG3.out hg)
    have hx4 := Lib.hid (hx3.out.kept hg)
    have hy4 := Lib.hid (hy3.out.kept hg)
    have hz4 := Lib.hid (hz3.out.kept hg)
    have hp4 := Lib.hid (hp3.out.kept hg)
    have hq4 := Lib.hid (hq3.out.kept hg)
    have hj4 := Lib.hid (hj3.out.kept hg)
    clear hn hg hS3 hG3 hx3 hy3 hz3 hp3 hq3 hj3
    try walk_nrm
    repeat (first
      | refine r_end ?_ | refine r_skip ?_ | (refine r_region ?_; simp only [List.size_toArray, List.length_cons, List.length_nil, Nat.reduceAdd, Nat.zero_add, List.range, List.range.loop])
      | refine r_seq ?_
      | (refine r_op rfl rfl (by decide) (fun w₁ h₁ K hK => ?_); obtain ⟨dd, hdd⟩ := h₁; subst hdd; (try simp only [at_at', alloc_at']); go_simp
         refine hK _ _ ⟨fun e he => (by have hm := mem_listed he; simp [go_sem] at hm), ?_⟩; clear hK K; try walk_nrm))
    refine r_callx (joined_held (w := w4.at _) (hz4.out.kept (rel_grown ⟨_, rfl⟩ none)) (hy4.out.kept (rel_grown ⟨_, rfl⟩ none)) (by have := hle.out; omega) (hS4.out.up (Nat.le_refl _))) rfl rfl (by decide) rfl (by simp only [List.map_toArray, List.map_cons, List.map_nil]; rfl) (fun S' k w5 hp => ?_)
    obtain ⟨hS', hn, hg⟩ := hp
    have hS' := hS'.symm; subst hS'
    have hg : w4.grownBy w5 none := ⟨hg.os, hg.tape, hg.output, hg.size, hg.block⟩
    have hk5 := Lib.hid hn
    have hS5 := Lib.hid (hS4.out.up hg.size)
    have hG5 := Lib.hid (grown_trans hG4.out hg)
    have hx5 := Lib.hid (hx4.out.kept hg)
    have hy5 := Lib.hid (hy4.out.kept hg)
    have hz5 := Lib.hid (hz4.out.kept hg)
    have hp5 := Lib.hid (hp4.out.kept hg)
    have hq5 := Lib.hid (hq4.out.kept hg)
    have hj5 := Lib.hid (hj4.out.kept hg)
    have hr5 := Lib.hid (hr4.out.kept hg)
    clear hn hg hS4 hG4 hx4 hy4 hz4 hp4 hq4 hj4 hr4
    try walk_nrm
    repeat (first
      | refine r_end ?_ | refine r_skip ?_ | (refine r_region ?_; simp only [List.size_toArray, List.length_cons, List.length_nil, Nat.reduceAdd, Nat.zero_add, List.range, List.range.loop])
      | refine r_seq ?_
      | (refine r_op rfl rfl (by decide) (fun w₁ h₁ K hK => ?_); obtain ⟨dd, hdd⟩ := h₁; subst hdd; (try simp only [at_at', alloc_at']); go_simp
         refine hK _ _ ⟨fun e he => (by have hm := mem_listed he; simp [go_sem] at hm), ?_⟩; clear hK K; try walk_nrm))
    refine r_callx (relay_held (w := w5.at _) (hx5.out.kept (rel_grown ⟨_, rfl⟩ none)) (hk5.out.kept (rel_grown ⟨_, rfl⟩ none)) (by have := HL1.out; omega) (by have := hle.out; simp; omega) (hS5.out.up (Nat.le_refl _))) rfl rfl (by decide) rfl (by simp only [List.map_toArray, List.map_cons, List.map_nil]; rfl) (fun S' s w6 hp => ?_)
    obtain ⟨hS', hn, hg⟩ := hp
    have hS' := hS'.symm; subst hS'
    have hg : w5.grownBy w6 none := ⟨hg.os, hg.tape, hg.output, hg.size, hg.block⟩
    have hs6 := Lib.hid hn
    have hS6 := Lib.hid (hS5.out.up hg.size)
    have hG6 := Lib.hid (grown_trans hG5.out hg)
    have hx6 := Lib.hid (hx5.out.kept hg)
    have hy6 := Lib.hid (hy5.out.kept hg)
    have hz6 := Lib.hid (hz5.out.kept hg)
    have hp6 := Lib.hid (hp5.out.kept hg)
    have hq6 := Lib.hid (hq5.out.kept hg)
    have hj6 := Lib.hid (hj5.out.kept hg)
    have hr6 := Lib.hid (hr5.out.kept hg)
    have hk6 := Lib.hid (hk5.out.kept hg)
    clear hn hg hS5 hG5 hx5 hy5 hz5 hp5 hq5 hj5 hr5 hk5
    try walk_nrm
    repeat (first
      | refine r_end ?_ | refine r_skip ?_ | (refine r_region ?_; simp only [List.size_toArray, List.length_cons, List.length_nil, Nat.reduceAdd, Nat.zero_add, List.range, List.range.loop])
      | refine r_seq ?_
      | (refine r_op rfl rfl (by decide) (fun w₁ h₁ K hK => ?_); obtain ⟨dd, hdd⟩ := h₁; subst hdd; (try simp only [at_at', alloc_at']); go_simp
         refine hK _ _ ⟨fun e he => (by have hm := mem_listed he; simp [go_sem] at hm), ?_⟩; clear hK K; try walk_nrm))
    refine r_callx (relay_held (w := w6.at _) (hx6.out.kept (rel_grown ⟨_, rfl⟩ none)) (held_nil _ _) (by have := HL1.out; omega) (by simp) (hS6.out.up (Nat.le_refl _))) rfl rfl (by decide) rfl (by simp only [List.map_toArray, List.map_cons, List.map_nil]; rfl) (fun S' t w7 hp => ?_)
    obtain ⟨hS', hn, hg⟩ := hp
    have hS' := hS'.symm; subst hS'
    have hg : w6.grownBy w7 none := ⟨hg.os, hg.tape, hg.output, hg.size, hg.block⟩
    have ht7 := Lib.hid hn
    have hS7 := Lib.hid (hS6.out.up hg.size)
    have hG7 := Lib.hid (grown_trans hG6.out hg)
    have hx7 := Lib.hid (hx6.out.kept hg)
    have hy7 := Lib.hid (hy6.out.kept hg)
    have hz7 := Lib.hid (hz6.out.kept hg)
    have hp7 := Lib.hid (hp6.out.kept hg)
    have hq7 := Lib.hid (hq6.out.kept hg)
    have hj7 := Lib.hid (hj6.out.kept hg)
    have hr7 := Lib.hid (hr6.out.kept hg)
    have hk7 := Lib.hid (hk6.out.kept hg)
    have hs7 := Lib.hid (hs6.out.kept hg)
    clear hn hg hS6 hG6 hx6 hy6 hz6 hp6 hq6 hj6 hr6 hk6 hs6
    try walk_nrm
    repeat (first
      | refine r_end ?_ | refine r_skip ?_ | (refine r_region ?_; simp only [List.size_toArray, List.length_cons, List.length_nil, Nat.reduceAdd, Nat.zero_add, List.range, List.range.loop])
      | refine r_seq ?_
      | (refine r_op rfl rfl (by decide) (fun w₁ h₁ K hK => ?_); obtain ⟨dd, hdd⟩ := h₁; subst hdd; (try simp only [at_at', alloc_at']); go_simp
         refine hK _ _ ⟨fun e he => (by have hm := mem_listed he; simp [go_sem] at hm), ?_⟩; clear hK K; try walk_nrm))
    refine r_callx (same_held (w := w7.at _) (hq7.out.kept (rel_grown ⟨_, rfl⟩ none)) (hr7.out.kept (rel_grown ⟨_, rfl⟩ none)) (e1.out hle.out)) rfl rfl (by decide) rfl (by simp only [List.map_toArray, List.map_cons, List.map_nil]; rfl) (fun S' r' w' hp => ?_)
    obtain ⟨hS', rfl, d', rfl⟩ := hp
    have hS' := hS'.symm; subst hS'
    try walk_nrm
    repeat (first
      | refine r_end ?_ | refine r_skip ?_ | (refine r_region ?_; simp only [List.size_toArray, List.length_cons, List.length_nil, Nat.reduceAdd, Nat.zero_add, List.range, List.range.loop])
      | refine r_seq ?_
      | (refine r_op rfl rfl (by decide) (fun w₁ h₁ K hK => ?_); obtain ⟨dd, hdd⟩ := h₁; subst hdd; (try simp only [at_at', alloc_at']); go_simp
         refine hK _ _ ⟨fun e he => (by have hm := mem_listed he; simp [go_sem] at hm), ?_⟩; clear hK K; try walk_nrm))
    refine r_callx (same_held (w := w7.at _) (hs7.out.kept (rel_grown ⟨_, rfl⟩ none)) (hr7.out.kept (rel_grown ⟨_, rfl⟩ none)) e2.out) rfl rfl (by decide) rfl (by simp only [List.map_toArray, List.map_cons, List.map_nil]; rfl) (fun S' r' w' hp => ?_)
    obtain ⟨hS', rfl, d', rfl⟩ := hp
    have hS' := hS'.symm; subst hS'
    try walk_nrm
    repeat (first
      | refine r_end ?_ | refine r_skip ?_ | (refine r_region ?_; simp only [List.size_toArray, List.length_cons, List.length_nil, Nat.reduceAdd, Nat.zero_add, List.range, List.range.loop])
      | refine r_seq ?_
      | (refine r_op rfl rfl (by decide) (fun w₁ h₁ K hK => ?_); obtain ⟨dd, hdd⟩ := h₁; subst hdd; (try simp only [at_at', alloc_at']); go_simp
         refine hK _ _ ⟨fun e he => (by have hm := mem_listed he; simp [go_sem] at hm), ?_⟩; clear hK K; try walk_nrm))
    refine r_callx (same_held (w := w7.at _) (ht7.out.kept (rel_grown ⟨_, rfl⟩ none)) (hx7.out.kept (rel_grown ⟨_, rfl⟩ none)) e3.out) rfl rfl (by decide) rfl (by simp only [List.map_toArray, List.map_cons, List.map_nil]; rfl) (fun S' r' w' hp => ?_)
    obtain ⟨hS', rfl, d', rfl⟩ := hp
    have hS' := hS'.symm; subst hS'
    try walk_nrm
    repeat (first
      | refine r_end ?_ | refine r_skip ?_ | (refine r_region ?_; simp only [List.size_toArray, List.length_cons, List.length_nil, Nat.reduceAdd, Nat.zero_add, List.range, List.range.loop])
      | refine r_seq ?_
      | (refine r_op rfl rfl (by decide) (fun w₁ h₁ K hK => ?_); obtain ⟨dd, hdd⟩ := h₁; subst hdd; (try simp only [at_at', alloc_at']); go_simp
         refine hK _ _ ⟨fun e he => (by have hm := mem_listed he; simp [go_sem] at hm), ?_⟩; clear hK K; try walk_nrm))
    refine r_ret ?_
    refine .here ⟨rfl, fun w₁ r => ⟨.bool true, ?_, rfl, ?_⟩⟩
    · simp [G, stepG, unwind, doReturn, results, Frame.at, base, Try.func6, Try.f6, seen, GStep.after]
    · obtain ⟨d, rfl⟩ := r
      exact below_grown (grown_at (grown_at hG7.out _) _)

theorem rows_run (W : World) {a0 b0 c0 : Option Addr} {ca cb cc : Nat} {vs us bs : List Int} (hx : Held (fun _ => False) W (.slice a0 vs.length ca) vs) (hy : Held (fun _ => False) W (.slice b0 us.length cb) us) (hz : Held (fun _ => False) W (.slice c0 bs.length cc) bs)
    (hl1 : vs.length * 8 ≤ 140737488351232) (hl2 : us.length * 8 ≤ 140737488351232) (hl3 : bs.length * 8 ≤ 140737488351232) (hr : ∀ v ∈ vs, InR v) :
    ∃ M last o w' t', runNT Try.prog (M + 1) (solo (G (Frame.enter Try.prog 6 #[.slice a0 vs.length ca, .slice b0 us.length cb, .slice c0 bs.length cc] .normal) []) W) #[] = (.ended o w', t') ∧ runN Try.prog M (solo (G (Frame.enter Try.prog 6 #[.slice a0 vs.length ca, .slice b0 us.length cb, .slice c0 bs.length cc] .normal) []) W) = .next last ∧
    step Try.prog last = .ended o w' ∧ Conc.Good Try.prog (PostW W) last o w' t' := by
  have e : Frame.enter Try.prog 6 #[.slice a0 vs.length ca, .slice b0 us.length cb, .slice c0 bs.length cc] .normal = ((base 6).at ⟨#[.slice a0 vs.length ca, .slice b0 us.length cb, .slice c0 bs.length cc, undef, undef, undef, undef, undef, undef, undef, undef, undef, undef, undef, undef, undef, undef, undef, undef, undef, undef, undef, undef, undef, undef, undef, undef, undef, undef, undef, undef, undef, undef, undef, undef, undef, undef, undef, undef, undef, undef, undef, undef, undef, undef, undef, undef, undef, undef, undef, undef, undef, undef], []⟩ [.code body6]) := by
    simp [Frame.enter, Frame.at, Try.func6, base, body6, Try.f6]
  rw [e]
  exact (crewRows_reach W hx hy hz hl1 hl2 hl3 hr).ends (stands_first _ _)

theorem rows_lifted (os : Os) (started : os.Started) (H : Type) (enc : TypeId × Value → H) :
    ReturnsInLeavingWide {} Try.checked os 6 .any (Rows.crewRowsSpec.pre6 enc Try.prog Try.f6 Rows.crewRowsRow.domain false) (Rows.crewRowsSpec.post enc Try.prog Try.f6 false true false false) := by
  refine returnsInLeavingWide_of_change_sized (C := Try.checked) try_own started Try.func6
    (ChangeSpec.witness6 (enc := enc) (C := Try.checked) false ⟨#[], #[.slice none 0 0, .slice none 0 0, .slice none 0 0], []⟩ 8 (by kernel_rfl) (by kernel_rfl) (by kernel_rfl) (by kernel_rfl)) ?_
  intro W base args ds gs before hval0 hW _ hsz0 _
  have hsz : (DataW.weightsEach Try.prog (Try.f6.params.toList ++ Rows.crewRowsSpec.plain.varTypes Try.prog) (ds ++ gs)).all (· ≤ reachBytes) = true := hsz0
  clear hsz0
  have hval : ∀ (j : Nat) t v, Try.f6.params[j]? = some t → args[j]? = some v → Value.okWide Try.prog W .any base t v := hval0
  have hW' := hW
  obtain ⟨p, q, hA0, hV, rfl, _, _⟩ := hW
  have hA : DataW.TrodAll enc Try.prog W 0 (fun _ => true) true Try.f6.params.toList args.toList ds p := hA0
  rw [Try.params6] at hA hval hsz
  obtain ⟨v0, v1, v2, d0, d1, d2, p0, p1, p2, rfl, rfl, rfl, h0, h1, h2⟩ := trodAll_three hA
  obtain ⟨rfl, rfl⟩ := trodVars_none hV
  obtain ⟨a0, len0, cap0, rfl⟩ := okWide_slice Try.underlying22 (hval 0 22 v0 rfl rfl)
  obtain ⟨a1, len1, cap1, rfl⟩ := okWide_slice Try.underlying22 (hval 1 22 v1 rfl rfl)
  obtain ⟨a2, len2, cap2, rfl⟩ := okWide_slice Try.underlying22 (hval 2 22 v2 rfl rfl)
  have k0 := okWide_low Try.underlying22 (hval 0 22 _ rfl rfl)
  have k1 := okWide_low Try.underlying22 (hval 1 22 _ rfl rfl)
  have k2 := okWide_low Try.underlying22 (hval 2 22 _ rfl rfl)
  clear hA0 hval0
  simp only [List.append_nil] at hW'
  have hlt : ∀ x ∈ p0 ++ (p1 ++ p2), x.block < W.heap.size := fun x hx => by have := hW'.lt x; simp only [List.append_assoc, List.append_nil] at this; exact this hx
  have hl0 : ∀ x ∈ p0, x.block < W.heap.size := fun x hx => hlt x (List.mem_append.2 (.inl hx))
  have hl1 : ∀ x ∈ p1, x.block < W.heap.size := fun x hx => hlt x (List.mem_append.2 (.inr (List.mem_append.2 (.inl hx))))
  have hl2 : ∀ x ∈ p2, x.block < W.heap.size := fun x hx => hlt x (List.mem_append.2 (.inr (List.mem_append.2 (.inr hx))))
  obtain ⟨vs, i0, b0, s0, r0⟩ := open_arg h0 hl0 fun elems spare e => by
    subst e
    have := sized_slice hsz (j := 0) (t := 22) (e := 3) rfl rfl Try.underlying22
    rwa [try_bytes3] at this
  obtain ⟨us, i1, b1, s1, _⟩ := open_arg h1 hl1 fun elems spare e => by
    subst e
    have := sized_slice hsz (j := 1) (t := 22) (e := 3) rfl rfl Try.underlying22
    rwa [try_bytes3] at this
  obtain ⟨bs, i2, b2, s2, _⟩ := open_arg h2 hl2 fun elems spare e => by
    subst e
    have := sized_slice hsz (j := 2) (t := 22) (e := 3) rfl rfl Try.underlying22
    rwa [try_bytes3] at this
  obtain rfl := ints_len i0
  obtain rfl := ints_len i1
  obtain rfl := ints_len i2
  obtain ⟨M, last, o, w', t', r1, r2, r3, r4⟩ := rows_run W ⟨i0, k0⟩ ⟨i1, k1⟩ ⟨i2, k2⟩ s0 s1 s2 r0
  refine ⟨M, last, o, w', t', r1, r2, r3, r4.mono fun v hF => ?_⟩
  obtain ⟨rfl, hbelow⟩ : PostW W v w' := hF
  have t0 : DataW.Trod enc Try.prog w' 0 (fun b => decide (b < W.heap.size)) true 22 _ d0 p0 := Below.trod try_laid (by kernel_rfl) (of_decide_eq_true (by kernel_rfl)) h0 hbelow hl0
  have t1 : DataW.Trod enc Try.prog w' 0 (fun b => decide (b < W.heap.size)) true 22 _ d1 p1 := Below.trod try_laid (by kernel_rfl) (of_decide_eq_true (by kernel_rfl)) h1 hbelow hl1
  have t2 : DataW.Trod enc Try.prog w' 0 (fun b => decide (b < W.heap.size)) true 22 _ d2 p2 := Below.trod try_laid (by kernel_rfl) (of_decide_eq_true (by kernel_rfl)) h2 hbelow hl2
  exact ⟨_, _, _, [], _, [], hW', trodAll_mk1 (shut_bool Try.underlying4 true), trodAll_mk3 t0 t1 t2, rfl, hbelow.frame _, fun h => by cases h⟩

/-- THE STATEMENT. -/
theorem crew_rows : Rows.CrewRowsSaid :=
  OpenClaim.holds_of_wide_leaving 6 Try.f6 rfl rfl rfl rfl rfl rfl rfl ⟨rfl, rfl, rfl, rfl, rfl⟩ rfl rfl rfl rfl rfl (by kernel_rfl) Try.func6 (by kernel_rfl)
    (of_decide_eq_true (by kernel_rfl)) (by unfold Func.isWrapper; first | (rw [if_pos (by decide +kernel)]; kernel_rfl) | (rw [if_neg (by decide +kernel)]; exact ⟨rfl, rfl⟩))
    (fun os started H enc _ => rows_lifted os started H enc)

#print axioms crew_rows
end Go.Proofs.Ytdpagejckahkkaa
