/- CrewRelay returns true: of all values and adds, crew.Relay gives what the document's Relay gives, three times over, each answer its holder's; what was handed in is as it was. -/
import Derived.Test.YtdpagejckahkkaaLaw
import Derived.Test.YtdpagejckahkkaaNames
set_option linter.unusedSimpArgs false
set_option linter.unusedVariables false
namespace Go.Proofs.Ytdpagejckahkkaa
open Go Go.Conc Go.RowKit Net Go.ChangeShapes Go.WideShapes Go.ChangeAt

theorem own_none {w w' : World} {base n : Nat} {v : Value} {xs : List Value} (h : w.ownsRow base 3 1 v n xs) (hg : w.grownBy w' none) : w'.ownsRow base 3 1 v n xs := h.kept hg (by cases v.ownBlock <;> simp)
theorem ints_none {S : Loc → Prop} {w w' : World} {v : Value} {xs : List Int} (h : IntsAt S w v xs) (hg : w.grownBy w' none) : IntsAt S w' v xs := h.kept hg fun k _ e => by cases e
theorem own_ints {w : World} {base n : Nat} {v : Value} {xs : List Int} (h : w.ownsRow base 3 1 v n (xs.map num)) (hm : n ≤ 4611686018427387904) : IntsAt (fun _ => False) w v xs := IntsAt.own h (fun _ _ => id) hm

noncomputable def body4 : Code := Try.f4.body.getD .skip
/-- What the run leaves. -/
def Post4 (W : World) (v : Value) (w' : World) : Prop := v = .bool true ∧ Below W.heap.size W w'


set_option maxRecDepth 100000 in
set_option maxHeartbeats 8000000 in
theorem crewRelay_reach (W : World) (va vb : Value) (vs ys : List Int) (hx : IntsAt (fun _ => False) W va vs) (hy : IntsAt (fun _ => False) W vb ys) (hxb : ∀ k, va.ownBlock = some k → vs ≠ [] → k < W.heap.size) (hyb : ∀ k, vb.ownBlock = some k → ys ≠ [] → k < W.heap.size) (hl1 : vs.length * 8 ≤ 140737488351232) (hl2 : ys.length * 8 ≤ 140737488351232) (hr : ∀ v ∈ vs, InR v) :
    Net.Reach Try.prog (fun _ => False) (G ((base 4).at ⟨#[va, vb, undef, undef, undef, undef, undef, undef, undef, undef, undef, undef, undef, undef, undef, undef, undef, undef, undef, undef, undef, undef, undef, undef, undef, undef, undef, undef, undef, undef, undef, undef, undef, undef, undef, undef, undef, undef, undef, undef, undef, undef, undef, undef], []⟩ [.code body4]) []) W (AtLast Try.prog (Post4 W)) := by
  simp only [body4, Try.f4, Option.getD_some]
  · repeat (first
      | refine r_end ?_ | refine r_skip ?_ | (refine r_region ?_; simp only [List.size_toArray, List.length_cons, List.length_nil, Nat.reduceAdd, Nat.zero_add, List.range, List.range.loop])
      | refine r_seq ?_
      | (refine r_op rfl rfl (by decide) (fun w₁ h₁ K hK => ?_); obtain ⟨dd, hdd⟩ := h₁; subst hdd; (try simp only [at_at']); go_simp
         refine hK _ _ ⟨fun e he => (by have hm := mem_listed he; simp [go_sem] at hm), ?_⟩; clear hK K; try walk_nrm))
    refine r_callx (ref_calls (w := W.at _) hx hy (by omega) (fun _ _ => id)) rfl rfl (by decide) rfl (by simp only [List.map_toArray, List.map_cons, List.map_nil]; rfl) (fun S' want w1 hp => ?_)
    obtain ⟨hS', hO1, gw1⟩ := hp
    subst hS'
    have gw1 : W.grownBy w1 none := ⟨gw1.os, gw1.tape, gw1.output, gw1.size, gw1.block⟩
    have hO1 : w1.ownsRow W.heap.size 3 1 want (refL vs ys).length ((refL vs ys).map num) := hO1
    have eL := relayL_eq (ys := ys) hr
    have hLn := refL_length vs ys
    have hx1 := ints_none hx gw1
    have hy1 := ints_none hy gw1
    try walk_nrm
    repeat (first
      | refine r_end ?_ | refine r_skip ?_ | (refine r_region ?_; simp only [List.size_toArray, List.length_cons, List.length_nil, Nat.reduceAdd, Nat.zero_add, List.range, List.range.loop])
      | refine r_seq ?_
      | (refine r_op rfl rfl (by decide) (fun w₁ h₁ K hK => ?_); obtain ⟨dd, hdd⟩ := h₁; subst hdd; (try simp only [at_at']); go_simp
         refine hK _ _ ⟨fun e he => (by have hm := mem_listed he; simp [go_sem] at hm), ?_⟩; clear hK K; try walk_nrm))
    refine r_callx (ints_calls (w := w1.at _) hx1 (by omega) (fun _ _ => id)) rfl rfl (by decide) rfl (by simp only [List.map_toArray, List.map_cons, List.map_nil]; rfl) (fun S' v w2 hp => ?_)
    obtain ⟨hS', hO2, gw2, _⟩ := hp
    subst hS'
    have gw2 : w1.grownBy w2 none := ⟨gw2.os, gw2.tape, gw2.output, gw2.size, gw2.block⟩
    have hO2 : w2.ownsRow w1.heap.size 3 1 v (vs).length ((vs).map num) := hO2
    have hy2 := ints_none hy1 gw2
    try walk_nrm
    repeat (first
      | refine r_end ?_ | refine r_skip ?_ | (refine r_region ?_; simp only [List.size_toArray, List.length_cons, List.length_nil, Nat.reduceAdd, Nat.zero_add, List.range, List.range.loop])
      | refine r_seq ?_
      | (refine r_op rfl rfl (by decide) (fun w₁ h₁ K hK => ?_); obtain ⟨dd, hdd⟩ := h₁; subst hdd; (try simp only [at_at']); go_simp
         refine hK _ _ ⟨fun e he => (by have hm := mem_listed he; simp [go_sem] at hm), ?_⟩; clear hK K; try walk_nrm))
    refine r_callx (ints_calls (w := w2.at _) hy2 (by omega) (fun _ _ => id)) rfl rfl (by decide) rfl (by simp only [List.map_toArray, List.map_cons, List.map_nil]; rfl) (fun S' u w3 hp => ?_)
    obtain ⟨hS', hO3, gw3, _⟩ := hp
    subst hS'
    have gw3 : w2.grownBy w3 none := ⟨gw3.os, gw3.tape, gw3.output, gw3.size, gw3.block⟩
    have hO3 : w3.ownsRow w2.heap.size 3 1 u (ys).length ((ys).map num) := hO3
    have hV3 := own_none hO2 gw3
    try walk_nrm
    repeat (first
      | refine r_end ?_ | refine r_skip ?_ | (refine r_region ?_; simp only [List.size_toArray, List.length_cons, List.length_nil, Nat.reduceAdd, Nat.zero_add, List.range, List.range.loop])
      | refine r_seq ?_
      | (refine r_op rfl rfl (by decide) (fun w₁ h₁ K hK => ?_); obtain ⟨dd, hdd⟩ := h₁; subst hdd; (try simp only [at_at']); go_simp
         refine hK _ _ ⟨fun e he => (by have hm := mem_listed he; simp [go_sem] at hm), ?_⟩; clear hK K; try walk_nrm))
    refine r_callx (relay_own (w := w3.at _) hV3 hO3 (by omega) (by omega)) rfl rfl (by decide) rfl (by simp only [List.map_toArray, List.map_cons, List.map_nil]; rfl) (fun S' a w4 hp => ?_)
    obtain ⟨hS', hO4, gw4⟩ := hp
    subst hS'
    have gw4 : w3.grownBy w4 none := ⟨gw4.os, gw4.tape, gw4.output, gw4.size, gw4.block⟩
    have hO4 : w4.ownsRow w3.heap.size 3 1 a (relayL vs ys).length ((relayL vs ys).map num) := hO4
    have hV4 := own_none hV3 gw4
    have hU4 := own_none hO3 gw4
    rw [eL] at hO4
    try walk_nrm
    repeat (first
      | refine r_end ?_ | refine r_skip ?_ | (refine r_region ?_; simp only [List.size_toArray, List.length_cons, List.length_nil, Nat.reduceAdd, Nat.zero_add, List.range, List.range.loop])
      | refine r_seq ?_
      | (refine r_op rfl rfl (by decide) (fun w₁ h₁ K hK => ?_); obtain ⟨dd, hdd⟩ := h₁; subst hdd; (try simp only [at_at']); go_simp
         refine hK _ _ ⟨fun e he => (by have hm := mem_listed he; simp [go_sem] at hm), ?_⟩; clear hK K; try walk_nrm))
    refine r_callx (relay_own (w := w4.at _) hV4 hU4 (by omega) (by omega)) rfl rfl (by decide) rfl (by simp only [List.map_toArray, List.map_cons, List.map_nil]; rfl) (fun S' b w5 hp => ?_)
    obtain ⟨hS', hO5, gw5⟩ := hp
    subst hS'
    have gw5 : w4.grownBy w5 none := ⟨gw5.os, gw5.tape, gw5.output, gw5.size, gw5.block⟩
    have hO5 : w5.ownsRow w4.heap.size 3 1 b (relayL vs ys).length ((relayL vs ys).map num) := hO5
    have hV5 := own_none hV4 gw5
    have hU5 := own_none hU4 gw5
    rw [eL] at hO5
    try walk_nrm
    repeat (first
      | refine r_end ?_ | refine r_skip ?_ | (refine r_region ?_; simp only [List.size_toArray, List.length_cons, List.length_nil, Nat.reduceAdd, Nat.zero_add, List.range, List.range.loop])
      | refine r_seq ?_
      | (refine r_op rfl rfl (by decide) (fun w₁ h₁ K hK => ?_); obtain ⟨dd, hdd⟩ := h₁; subst hdd; (try simp only [at_at']); go_simp
         refine hK _ _ ⟨fun e he => (by have hm := mem_listed he; simp [go_sem] at hm), ?_⟩; clear hK K; try walk_nrm))
    refine r_callx (relay_own (w := w5.at _) hV5 hU5 (by omega) (by omega)) rfl rfl (by decide) rfl (by simp only [List.map_toArray, List.map_cons, List.map_nil]; rfl) (fun S' c w6 hp => ?_)
    obtain ⟨hS', hO6, gw6⟩ := hp
    subst hS'
    have gw6 : w5.grownBy w6 none := ⟨gw6.os, gw6.tape, gw6.output, gw6.size, gw6.block⟩
    have hO6 : w6.ownsRow w5.heap.size 3 1 c (relayL vs ys).length ((relayL vs ys).map num) := hO6
    have hV6 := own_none hV5 gw6
    have hU6 := own_none hU5 gw6
    rw [eL] at hO6
    have s1 : W.heap.size ≤ w1.heap.size := gw1.size
    have s2 : w1.heap.size ≤ w2.heap.size := gw2.size
    have s3 : w2.heap.size ≤ w3.heap.size := gw3.size
    have s4 : w3.heap.size ≤ w4.heap.size := gw4.size
    have s5 : w4.heap.size ≤ w5.heap.size := gw5.size
    have s6 : w5.heap.size ≤ w6.heap.size := gw6.size
    have kA : ∀ k, a.ownBlock = some k → w3.heap.size ≤ k ∧ k < w4.heap.size := fun k hk => hO4.lt k hk
    have kB : ∀ k, b.ownBlock = some k → w4.heap.size ≤ k ∧ k < w5.heap.size := fun k hk => hO5.lt k hk
    have kC : ∀ k, c.ownBlock = some k → w5.heap.size ≤ k ∧ k < w6.heap.size := fun k hk => hO6.lt k hk
    have kW : ∀ k, want.ownBlock = some k → W.heap.size ≤ k ∧ k < w1.heap.size := fun k hk => hO1.lt k hk
    have kV : ∀ k, v.ownBlock = some k → w1.heap.size ≤ k ∧ k < w2.heap.size := fun k hk => hO2.lt k hk
    have kU : ∀ k, u.ownBlock = some k → w2.heap.size ≤ k ∧ k < w3.heap.size := fun k hk => hO3.lt k hk
    have rise : ∀ {x y : Nat} {v : Value} {n : Nat} {xs : List Value}, x ≤ y → w6.ownsRow y 3 1 v n xs → w6.ownsRow x 3 1 v n xs := fun hxy h => ⟨h.1, h.2.imp id fun ⟨g, cap, cur, e, hb, r⟩ => ⟨g, cap, cur, e, Nat.le_trans hxy hb, r⟩⟩
    have hA6 : w6.ownsRow W.heap.size 3 1 a (refL vs ys).length ((refL vs ys).map num) := rise (by omega) (own_none (own_none hO4 gw5) gw6)
    have hB6 : IntsAt (fun _ => False) w6 b (refL vs ys) := own_ints (own_none hO5 gw6) (by omega)
    have hC6 : w6.ownsRow W.heap.size 3 1 c (refL vs ys).length ((refL vs ys).map num) := rise (by omega) hO6
    have hW6 : IntsAt (fun _ => False) w6 want (refL vs ys) := own_ints (own_none (own_none (own_none (own_none (own_none hO1 gw2) gw3) gw4) gw5) gw6) (by omega)
    have hx6 : IntsAt (fun _ => False) w6 va vs := ints_none (ints_none (ints_none (ints_none (ints_none (ints_none hx gw1) gw2) gw3) gw4) gw5) gw6
    have hy6 : IntsAt (fun _ => False) w6 vb ys := ints_none (ints_none (ints_none (ints_none (ints_none (ints_none hy gw1) gw2) gw3) gw4) gw5) gw6
    have low6 : Below W.heap.size W w6 := by
      have k := grown_trans (grown_trans (grown_trans (grown_trans (grown_trans gw1 gw2) gw3) gw4) gw5) gw6
      exact ⟨k.os, k.tape, k.output, k.size, fun i hi => k.block i hi (by simp)⟩
    try walk_nrm
    repeat (first
      | refine r_end ?_ | refine r_skip ?_ | (refine r_region ?_; simp only [List.size_toArray, List.length_cons, List.length_nil, Nat.reduceAdd, Nat.zero_add, List.range, List.range.loop])
      | refine r_seq ?_
      | (refine r_op rfl rfl (by decide) (fun w₁ h₁ K hK => ?_); obtain ⟨dd, hdd⟩ := h₁; subst hdd; (try simp only [at_at']); go_simp
         refine hK _ _ ⟨fun e he => (by have hm := mem_listed he; simp [go_sem] at hm), ?_⟩; clear hK K; try walk_nrm))
    refine r_callx (three_calls (w := w6.at _) hA6 hB6 hC6 hW6 (by omega) (fun _ _ => id) (by show W.heap.size ≤ w6.heap.size; omega) (fun k h1 h2 => by have := kA k h1; have := kC k h2; omega) (fun k hk => ⟨fun e => by have := kA k e.symm; have := kB k hk; omega, fun e => by have := kC k e.symm; have := kB k hk; omega⟩)
      (fun k hk => ⟨fun e => by have := kA k e.symm; have := kW k hk; omega, fun e => by have := kC k e.symm; have := kW k hk; omega⟩)) rfl rfl (by decide) rfl (by simp only [List.map_toArray, List.map_cons, List.map_nil]; rfl) (fun S' r w7 hp => ?_)
    obtain ⟨hS', rfl, o7, t7, p7, z7, b7⟩ := hp
    subst hS'
    have b7 : ∀ k, k < w3.heap.size → w7.heap[k]? = w6.heap[k]? := fun k hk => b7 k (by show k < w6.heap.size; omega) (fun e => by have := kA k e.symm; omega) (fun e => by have := kC k e.symm; omega)
    have low7 : Below W.heap.size W w7 := ⟨o7.trans low6.os, t7.trans low6.tape, p7.trans low6.output, Nat.le_trans low6.size z7, fun k hk => (b7 k (by omega)).trans (low6.block k hk)⟩
    have stay : ∀ {v : Value} {xs : List Int}, IntsAt (fun _ => False) w6 v xs → (∀ k, v.ownBlock = some k → xs ≠ [] → k < w3.heap.size) → IntsAt (fun _ => False) w7 v xs := fun h hk => by
      obtain ⟨a0, cap, rfl, h1, h2, h3⟩ := h
      refine ⟨a0, cap, rfl, fun j x hj => ?_, h2, h3⟩
      obtain ⟨ad, rfl, hc⟩ := h1 j x hj
      exact ⟨ad, rfl, (World.cell?_of_block (b7 _ (by rw [addBlk']; exact hk _ rfl (by rintro rfl; simp at hj)))).trans hc⟩
    have hV7 := stay (own_ints hV6 (by omega)) fun k hk _ => by have := kV k hk; omega
    have hU7 := stay (own_ints hU6 (by omega)) fun k hk _ => by have := kU k hk; omega
    have hx7 := stay hx6 fun k hk hn => by have := hxb k hk hn; omega
    have hy7 := stay hy6 fun k hk hn => by have := hyb k hk hn; omega
    clear hO1 hO2 hO3 hO4 hO5 hO6 hA6 hB6 hC6 hW6 hV3 hV4 hV5 hV6 hU4 hU5 hU6 hx hy hx1 hy1 hy2 hx6 hy6 eL hLn kA kB kC kW kV kU stay rise b7 hr
    try walk_nrm
    repeat (first
      | refine r_end ?_ | refine r_skip ?_ | (refine r_region ?_; simp only [List.size_toArray, List.length_cons, List.length_nil, Nat.reduceAdd, Nat.zero_add, List.range, List.range.loop])
      | refine r_seq ?_
      | (refine r_op rfl rfl (by decide) (fun w₁ h₁ K hK => ?_); obtain ⟨dd, hdd⟩ := h₁; subst hdd; (try simp only [at_at']); go_simp
         refine hK _ _ ⟨fun e he => (by have hm := mem_listed he; simp [go_sem] at hm), ?_⟩; clear hK K; try walk_nrm))
    refine r_callx (same_eq hV7 hx7) rfl rfl (by decide) rfl (by simp only [List.map_toArray, List.map_cons, List.map_nil]; rfl) (fun S' r w' hp => ?_)
    obtain ⟨hS', rfl, dd, rfl⟩ := hp
    subst hS'
    try walk_nrm
    repeat (first
      | refine r_end ?_ | refine r_skip ?_ | (refine r_region ?_; simp only [List.size_toArray, List.length_cons, List.length_nil, Nat.reduceAdd, Nat.zero_add, List.range, List.range.loop])
      | refine r_seq ?_
      | (refine r_op rfl rfl (by decide) (fun w₁ h₁ K hK => ?_); obtain ⟨dd, hdd⟩ := h₁; subst hdd; (try simp only [at_at']); go_simp
         refine hK _ _ ⟨fun e he => (by have hm := mem_listed he; simp [go_sem] at hm), ?_⟩; clear hK K; try walk_nrm))
    refine r_callx (same_eq hU7 hy7) rfl rfl (by decide) rfl (by simp only [List.map_toArray, List.map_cons, List.map_nil]; rfl) (fun S' r w' hp => ?_)
    obtain ⟨hS', rfl, dd, rfl⟩ := hp
    subst hS'
    try walk_nrm
    repeat (first
      | refine r_end ?_ | refine r_skip ?_ | (refine r_region ?_; simp only [List.size_toArray, List.length_cons, List.length_nil, Nat.reduceAdd, Nat.zero_add, List.range, List.range.loop])
      | refine r_seq ?_
      | (refine r_op rfl rfl (by decide) (fun w₁ h₁ K hK => ?_); obtain ⟨dd, hdd⟩ := h₁; subst hdd; (try simp only [at_at']); go_simp
         refine hK _ _ ⟨fun e he => (by have hm := mem_listed he; simp [go_sem] at hm), ?_⟩; clear hK K; try walk_nrm))
    refine r_ret ?_
    refine .here ⟨rfl, fun w₁ r => ⟨.bool true, ?_, rfl, ?_⟩⟩
    · simp [G, stepG, unwind, doReturn, results, Frame.at, base, Try.func4, Try.f4, seen, GStep.after]
    · obtain ⟨d, rfl⟩ := r
      exact ⟨low7.os, low7.tape, low7.output, low7.size, low7.block⟩


theorem relay_run (W : World) (va vb : Value) (vs ys : List Int) (hx : IntsAt (fun _ => False) W va vs) (hy : IntsAt (fun _ => False) W vb ys) (hxb : ∀ k, va.ownBlock = some k → vs ≠ [] → k < W.heap.size) (hyb : ∀ k, vb.ownBlock = some k → ys ≠ [] → k < W.heap.size) (hl1 : vs.length * 8 ≤ 140737488351232) (hl2 : ys.length * 8 ≤ 140737488351232) (hr : ∀ v ∈ vs, InR v) :
    ∃ M last o w' t', runNT Try.prog (M + 1) (solo (G (Frame.enter Try.prog 4 #[va, vb] .normal) []) W) #[] = (.ended o w', t') ∧ runN Try.prog M (solo (G (Frame.enter Try.prog 4 #[va, vb] .normal) []) W) = .next last ∧
    step Try.prog last = .ended o w' ∧ Conc.Good Try.prog (Post4 W) last o w' t' := by
  have e : Frame.enter Try.prog 4 #[va, vb] .normal = (base 4).at ⟨#[va, vb, undef, undef, undef, undef, undef, undef, undef, undef, undef, undef, undef, undef, undef, undef, undef, undef, undef, undef, undef, undef, undef, undef, undef, undef, undef, undef, undef, undef, undef, undef, undef, undef, undef, undef, undef, undef, undef, undef, undef, undef, undef, undef], []⟩ [.code body4] := by
    simp [Frame.enter, Frame.at, Try.func4, base, body4, Try.f4]
  rw [e]
  exact (crewRelay_reach W va vb vs ys hx hy hxb hyb hl1 hl2 hr).ends (stands_first _ _)

theorem try_laid : laidOutB Try.prog = true := by kernel_rfl
theorem try_cells3 : Try.prog.cellsOf 3 = 1 := by kernel_rfl
theorem try_bytes3 : Try.prog.bytesOf 3 = 8 := by kernel_rfl

/-- A slice of ints that is handed in. -/
theorem open_arg {H : Type} {enc : TypeId × Value → H} {W : World} {a0 : Option Addr} {len cap : Nat} {d : DataW H} {p : List MemPlace} (h : DataW.Trod enc Try.prog W 0 (fun _ => true) true 22 (.slice a0 len cap) d p) (hlt : ∀ x ∈ p, x.block < W.heap.size)
    (hsz : ∀ elems spare, d = .slice elems spare → (elems.length + spare.length) * 8 ≤ reachBytes) :
    ∃ xs : List Int, IntsAt (fun _ => False) W (.slice a0 len cap) xs ∧ (∀ k, Value.ownBlock (.slice a0 len cap) = some k → xs ≠ [] → k < W.heap.size) ∧ xs.length * 8 ≤ 140737488351232 ∧ ∀ x ∈ xs, InR x := by
  obtain ⟨fuel, hf⟩ := h
  rcases open_ints Try.underlying22 Try.underlying3 try_cells3 hf with ⟨hcs, hx⟩ | ⟨a, len', cap', zs, hcs, _, hl, hm, hz, hx, hcell, hwz⟩
  · simp [Value.cells] at hcs
    obtain ⟨rfl, rfl, rfl⟩ := hcs
    exact ⟨[], ⟨none, 0, rfl, (fun j u hj => by simp at hj), (fun ad h => by cases h), (fun _ => rfl), by simp⟩, (fun k hk => by cases hk), by simp, by simp⟩
  · simp [Value.cells] at hcs
    obtain ⟨rfl, rfl, rfl⟩ := hcs
    simp only [Prod.mk.injEq] at hx
    obtain ⟨rfl, rfl⟩ := hx
    simp only [if_true] at hz
    have hlen : (zs.take len).length = len := by simp; omega
    have hs := hsz _ _ rfl
    simp only [lits, List.length_map, List.length_take, List.length_drop, reachBytes] at hs
    refine ⟨zs.take len, ⟨some a, cap, by rw [hlen], fun j u hj => ⟨a, rfl, ?_⟩, (fun _ _ _ _ => id), (fun h => by cases h), by rw [hlen]; omega⟩, fun k hk hne => ?_, by rw [hlen]; omega, fun x hx => ?_⟩
    · rw [List.getElem?_take] at hj
      split at hj
      · obtain ⟨hj', rfl⟩ := List.getElem?_eq_some_iff.1 hj
        rw [hcell j hj']
        simp [num, List.getD, hj']
      · cases hj
    · have hk : a.block = k := Option.some.inj hk
      have hpos : 0 < len := by
        rcases Nat.eq_zero_or_pos len with rfl | h
        · exact absurd (by simp) hne
        · exact h
      obtain ⟨b, off, spot⟩ := a
      subst hk
      exact hlt (.cell b off) (MemPlace.mem_row.2 ⟨0, by omega, by simp⟩)
    · have := hwz x (List.mem_of_mem_take hx)
      simp [Lit.wf, IntKind.min, IntKind.max, IntKind.signed, IntKind.bits] at this
      unfold InR
      omega

set_option maxRecDepth 100000 in
theorem relay_lifted (os : Os) (started : os.Started) (H : Type) (enc : TypeId × Value → H) :
    ReturnsInLeavingWide {} Try.checked os 4 .any (Rows.crewRelaySpec.pre6 enc Try.prog Try.f4 Rows.crewRelayRow.domain false) (Rows.crewRelaySpec.post enc Try.prog Try.f4 false true false false) := by
  refine returnsInLeavingWide_of_change_sized (C := Try.checked) try_own started Try.func4
    (ChangeSpec.witness6 (enc := enc) (C := Try.checked) false ⟨#[], #[.slice none 0 0, .slice none 0 0], []⟩ 8 (by kernel_rfl) (by kernel_rfl) (by kernel_rfl) (by kernel_rfl)) ?_
  intro W base args ds gs before hval0 hW _ hsz0 _
  have hsz : (DataW.weightsEach Try.prog (Try.f4.params.toList ++ Rows.crewRelaySpec.plain.varTypes Try.prog) (ds ++ gs)).all (· ≤ reachBytes) = true := hsz0
  clear hsz0
  have hval : ∀ (j : Nat) t v, Try.f4.params[j]? = some t → args[j]? = some v → Value.okWide Try.prog W .any base t v := hval0
  have hW' := hW
  obtain ⟨p, q, hA0, hV, rfl, _, _⟩ := hW
  have hA : DataW.TrodAll enc Try.prog W 0 (fun _ => true) true Try.f4.params.toList args.toList ds p := hA0
  rw [Try.params4] at hA hval hsz
  obtain ⟨v0, v1, d0, d1, p0, p1, rfl, rfl, rfl, h0, h1⟩ := trodAll_two hA
  obtain ⟨rfl, rfl⟩ := trodVars_none hV
  obtain ⟨a0, len0, cap0, rfl⟩ := okWide_slice Try.underlying22 (hval 0 22 v0 rfl rfl)
  obtain ⟨a1, len1, cap1, rfl⟩ := okWide_slice Try.underlying22 (hval 1 22 v1 rfl rfl)
  clear hA0 hval0
  simp only [List.append_nil] at hW'
  have hlt : ∀ x ∈ p0 ++ p1, x.block < W.heap.size := fun x hx => by simpa using hW'.lt x hx
  have hl0 : ∀ x ∈ p0, x.block < W.heap.size := fun x hx => hlt x (List.mem_append.2 (.inl hx))
  have hl1 : ∀ x ∈ p1, x.block < W.heap.size := fun x hx => hlt x (List.mem_append.2 (.inr hx))
  obtain ⟨vs, i0, b0, s0, r0⟩ := open_arg h0 hl0 fun elems spare e => by
    subst e
    have := sized_slice hsz (j := 0) (t := 22) (e := 3) rfl rfl Try.underlying22
    rwa [try_bytes3] at this
  obtain ⟨ys, i1, b1, s1, _⟩ := open_arg h1 hl1 fun elems spare e => by
    subst e
    have := sized_slice hsz (j := 1) (t := 22) (e := 3) rfl rfl Try.underlying22
    rwa [try_bytes3] at this
  obtain ⟨M, last, o, w', t', r1, r2, r3, r4⟩ := relay_run W _ _ vs ys i0 i1 b0 b1 s0 s1 r0
  refine ⟨M, last, o, w', t', r1, r2, r3, r4.mono fun v hF => ?_⟩
  obtain ⟨rfl, hbelow⟩ : Post4 W v w' := hF
  have k0 : DataW.Trod enc Try.prog w' 0 (fun b => decide (b < W.heap.size)) true 22 (.slice a0 len0 cap0) d0 p0 := Below.trod try_laid (by kernel_rfl) (of_decide_eq_true (by kernel_rfl)) h0 hbelow hl0
  have k1 : DataW.Trod enc Try.prog w' 0 (fun b => decide (b < W.heap.size)) true 22 (.slice a1 len1 cap1) d1 p1 := Below.trod try_laid (by kernel_rfl) (of_decide_eq_true (by kernel_rfl)) h1 hbelow hl1
  exact ⟨_, _, _, [], _, [], hW', trodAll_mk1 (shut_bool Try.underlying4 true), trodAll_mk2 k0 k1, rfl, hbelow.frame _, fun h => by cases h⟩

/-- THE STATEMENT. -/
theorem crew_relay : Rows.CrewRelaySaid :=
  OpenClaim.holds_of_wide_leaving 4 Try.f4 rfl rfl rfl rfl rfl rfl rfl ⟨rfl, rfl, rfl, rfl, rfl⟩ rfl rfl rfl rfl rfl (by kernel_rfl) Try.func4 (by kernel_rfl)
    (of_decide_eq_true (by kernel_rfl)) (by unfold Func.isWrapper; first | (rw [if_pos (by decide +kernel)]; kernel_rfl) | (rw [if_neg (by decide +kernel)]; exact ⟨rfl, rfl⟩))
    (fun os started H enc _ => relay_lifted os started H enc)

#print axioms crew_relay

end Go.Proofs.Ytdpagejckahkkaa
