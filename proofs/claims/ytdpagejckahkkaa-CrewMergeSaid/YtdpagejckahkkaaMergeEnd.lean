/- CrewMerge: what is held through its calls. · CrewMerge returns true: of all parts and turns, crew.Merge gives what the document's Merge gives, three times over, each answer its holder's; what was handed in is as it was. · CrewMerge returns true: of all parts and turns, crew.Merge gives what the document's Merge gives, three times over, each answer its holder's; what was handed in is as it was. -/
import Derived.Test.YtdpagejckahkkaaMergeTwo
import Derived.Test.YtdpagejckahkkaaArgs
import Derived.Test.YtdpagejckahkkaaSeqH
set_option linter.unusedSimpArgs false
set_option linter.unusedVariables false
set_option maxRecDepth 100000
namespace Go.Proofs.Ytdpagejckahkkaa.Net
open Go Go.Conc Go.RowKit
open Go.ConcN (ShN)

/-- Rows that are held: all their blocks are there. -/
structure HeldP (S : Loc → Prop) (w : World) (a0 : Option Addr) (ps : List (List Int)) (hd : Nat → Value) : Prop where
  parts : PartsAt S w a0 ps hd
  top : ∀ ad, a0 = some ad → ad.block < w.heap.size
  low : ∀ j xs, ps[j]? = some xs → ∀ k, (hd j).ownBlock = some k → k < w.heap.size
theorem HeldP.shun {S S' : Loc → Prop} {w w' : World} {a0 : Option Addr} {ps : List (List Int)} {hd : Nat → Value} (h : HeldP S w a0 ps hd) (hg : w.grownBy w' none) (m : More S S' w w') : HeldP S' w' a0 ps hd where
  parts := ⟨fun j hj => by obtain ⟨ad, e, hc⟩ := h.parts.cell j hj; exact ⟨ad, e, hg.cell hc (by simp)⟩, fun ad e => m.clear (h.top ad e) (h.parts.clear ad e), fun j xs hj => (h.parts.row j xs hj).shun hg m (h.low j xs hj)⟩
  top ad e := Nat.lt_of_lt_of_le (h.top ad e) hg.size
  low j xs hj k hk := Nat.lt_of_lt_of_le (h.low j xs hj k hk) hg.size
theorem heldP_at {S : Loc → Prop} {w : World} {a0 : Option Addr} {ps : List (List Int)} {hd : Nat → Value} (h : HeldP S w a0 ps hd) (d : Nat) : HeldP S (w.at d) a0 ps hd := h.shun (grown_at (grown_refl w none) d) (More.same S _ _)

/-- The copies are such rows. -/
theorem Cop.held {W0 w : World} {ps : List (List Int)} {p : Value} (h : Cop W0 ps ps.length p w) (hlen : ∀ xs ∈ ps, xs.length * 8 ≤ 140737488351232) : ∃ p0 cp hd, p = .slice p0 ps.length cp ∧ HeldP (fun _ => False) w p0 ps hd := by
  obtain ⟨hg, hs, hl, hown, h1, hrow⟩ := h
  have low : ∀ (j : Nat) xs, ps[j]? = some xs → ∃ u, hs[j]? = some u ∧ w.ownsRow W0.heap.size 3 1 u xs.length (xs.map num) := fun j xs hj => by
    have : j < hs.length := by rw [hl]; exact (List.getElem?_eq_some_iff.1 hj).1
    exact ⟨hs[j], List.getElem?_eq_getElem this, (hrow j _ xs (List.getElem?_eq_getElem this) hj).1⟩
  have hlow : ∀ (j : Nat) xs, ps[j]? = some xs → w.ownsRow W0.heap.size 3 1 (hs.getD j undef) xs.length (xs.map num) := fun j xs hj => by
    obtain ⟨u, e, ho⟩ := low j xs hj
    simpa [List.getD, e] using ho
  have hmax : ∀ (j : Nat) xs, ps[j]? = some xs → xs.length ≤ 4611686018427387904 := fun j xs hj => by have := hlen xs (List.mem_of_getElem? hj); omega
  have hrows : ∀ j xs, ps[j]? = some xs → IntsAt (fun _ => False) w (hs.getD j undef) xs := fun j xs hj => IntsAt.own (hlow j xs hj) (fun _ _ => id) (hmax j xs hj)
  have hlo : ∀ j xs, ps[j]? = some xs → ∀ k, (hs.getD j undef).ownBlock = some k → k < w.heap.size := fun j xs hj k hk => ((hlow j xs hj).lt k hk).2
  rcases hown.2 with ⟨rfl, e0⟩ | ⟨g, cap, cur, rfl, hb, hgg, _⟩
  · exact ⟨none, 0, fun j => hs.getD j undef, by rw [e0], ⟨⟨(fun j hj => by omega), (fun ad e => by cases e), hrows⟩, (fun ad e => by cases e), hlo⟩⟩
  · refine ⟨some ⟨g, 0, none⟩, cap, fun j => hs.getD j undef, rfl, ⟨⟨fun j hj => ⟨_, rfl, ?_⟩, fun ad e _ _ => id, hrows⟩, (fun ad e => by cases e; exact (hown.lt g rfl).2), hlo⟩⟩
    have : j < hs.length := by omega
    exact hown.cells (g := g) rfl j _ (by simp [List.getD, this])

/-- The parts that are handed in: of an empty one the place is free. -/
structure InP (w : World) (a0 : Option Addr) (ps : List (List Int)) (hd : Nat → Value) : Prop where
  parts : PartsAt (fun _ => False) w a0 ps hd
  top : ∀ ad, a0 = some ad → ad.block < w.heap.size
  low : ∀ j xs, ps[j]? = some xs → xs ≠ [] → ∀ k, (hd j).ownBlock = some k → k < w.heap.size
theorem InP.kept {w w' : World} {a0 : Option Addr} {ps : List (List Int)} {hd : Nat → Value} (h : InP w a0 ps hd) (hg : w.grownBy w' none) : InP w' a0 ps hd :=
  ⟨h.parts.none hg, fun ad e => Nat.lt_of_lt_of_le (h.top ad e) hg.size, fun j xs hj hn k hk => Nat.lt_of_lt_of_le (h.low j xs hj hn k hk) hg.size⟩

set_option maxHeartbeats 4000000 in
/-- Two empty lists, wherever they lie. -/
theorem same_none {S : Loc → Prop} {w : World} {a0 b0 : Option Addr} {ca cb : Nat} : CallsR Try.prog S 12 #[.slice a0 0 ca, .slice b0 0 cb] w (fun S' v w' => S' = S ∧ v = .bool true ∧ AtRel w w') := by
  refine CallsR.enter Try.func12 (by rfl) rfl fun cs => ?_
  simp only [Try.f12, Option.getD_some, Nat.reduceSub, Array.replicate_succ, Array.replicate_zero, List.push_toArray, List.append_toArray, List.nil_append, List.cons_append, List.size_toArray, List.length_cons, List.length_nil, Nat.reduceAdd, Nat.zero_add]
  repeat (first
      | refine r_end ?_ | refine r_skip ?_ | (refine r_region ?_; simp only [List.size_toArray, List.length_cons, List.length_nil, Nat.reduceAdd, Nat.zero_add, List.range, List.range.loop])
      | (refine r_cond (t := false) (by simp [Act.eval]) ?_; simp only [if_true, if_false, Bool.false_eq_true, ↓reduceIte]; refine r_exit rfl ?_)
      | (refine r_cond (t := false) (by simp [Act.eval]) ?_; simp only [if_true, if_false, Bool.false_eq_true, ↓reduceIte])
      | refine r_seq ?_ | refine r_block ?_ | refine r_inBlock ?_ | refine r_loop ?_
      | (refine r_op rfl rfl (by decide) (fun w₁ h₁ K hK => ?_); obtain ⟨dd, hdd⟩ := h₁; subst hdd; (try simp only [at_at']); go_simp
         refine hK _ _ ⟨fun e he => (by have hm := mem_listed he; simp [go_sem, *] at hm), ?_⟩; clear hK K; try walk_nrm))
  refine r_ret ?_
  exact .here ⟨⟨_, []⟩, _, _, rfl, rfl, resultsC_tmp rfl _, rfl, rfl, ⟨_, rfl⟩⟩

/-- A copy against the part, whatever is shunned. -/
theorem part_back {S : Loc → Prop} {w w' : World} {a0 p0 : Option Addr} {ps : List (List Int)} {hd ud : Nat → Value} (hI : InP w a0 ps hd) (hP : HeldP (fun _ => False) w p0 ps ud) (hg : w.grownBy w' none) (m : More (fun _ => False) S w w') (i : Nat) (hi : i < ps.length) :
    CallsR Try.prog S 12 #[ud i, hd i] w' (fun S' v w'' => S' = S ∧ v = .bool true ∧ AtRel w' w'') := by
  have hx : ps[i]? = some ps[i] := List.getElem?_eq_getElem hi
  have h1 := hP.parts.row i _ hx
  have h2 := hI.parts.row i _ hx
  by_cases hn : ps[i] = []
  · rw [hn] at h1 h2
    obtain ⟨_, _, e1, _⟩ := h1
    obtain ⟨_, _, e2, _⟩ := h2
    rw [e1, e2]
    exact same_none
  · exact same_eq (h1.shun hg m (hP.low i _ hx)) (h2.shun hg m (hI.low i _ hx hn))
end Go.Proofs.Ytdpagejckahkkaa.Net

namespace Go.Proofs.Ytdpagejckahkkaa
open Go Go.Conc Go.RowKit Net Go.ChangeShapes Go.WideShapes Go.ChangeAt

theorem own_rise {w : World} {x y : Nat} {v : Value} {n : Nat} {xs : List Value} (hxy : x ≤ y) (h : w.ownsRow y 3 1 v n xs) : w.ownsRow x 3 1 v n xs := ⟨h.1, h.2.imp id fun ⟨g, cap, cur, e, hb, r⟩ => ⟨g, cap, cur, e, Nat.le_trans hxy hb, r⟩⟩
theorem mergeR_le (ps : List (List Int)) (ts : List Int) : (mergeR ps ts).length ≤ ts.length := by
  unfold mergeR
  split
  · simp
  · exact steps_length ps ts ts.length

set_option maxHeartbeats 16000000 in
theorem merge_rest (W w2 : World) {a0 p0 : Option Addr} {ca cp : Nat} {ps : List (List Int)} {hd ud : Nat → Value} {vt want : Value} {ts : List Int} {b1 : Nat} (hI : InP w2 a0 ps hd) (hP : HeldP (fun _ => False) w2 p0 ps ud) (hT : Held (fun _ => False) w2 vt ts) (hW : w2.ownsRow b1 3 1 want (mergeR ps ts).length ((mergeR ps ts).map num))
    (hG : W.grownBy w2 none) (hps : ps.length ≤ 4611686018427387904) (hlt : ts.length * 8 ≤ 140737488351232) :
    ∀ (j2 j3 j8 j9 j10 j11 j12 j13 j14 j15 j16 j17 j18 j19 j20 j21 j22 j23 j24 j25 j26 j27 j28 j29 j30 j31 j32 j33 j34 j35 j36 j37 j38 j39 j40 j41 j42 j43 j44 j45 j46 j47 j48 j49 j50 j51 j52 j53 j54 j55 j56 j57 j58 j59 j60 j61 j62 j63 j64 j65 j66 j67 j68 j69 j70 : Value) (d : Nat), Net.Reach Try.prog (fun _ => False) (G ((base 5).at ⟨#[.slice a0 ps.length ca, vt, j2, j3, .bool false, want, .slice p0 ps.length cp, num ps.length, j8, j9, j10, j11, j12, j13, j14, j15, j16, j17, j18, j19, j20, j21, j22, j23, j24, j25, j26, j27, j28, j29, j30, j31, j32, j33, j34, j35, j36, j37, j38, j39, j40, j41, j42, j43, j44, j45, j46, j47, j48, j49, j50, j51, j52, j53, j54, j55, j56, j57, j58, j59, j60, j61, j62, j63, j64, j65, j66, j67, j68, j69, j70], []⟩ [.code (tail5 4)]) []) (w2.at d) (AtLast Try.prog (PostW W)) := by
  intro j2 j3 j8 j9 j10 j11 j12 j13 j14 j15 j16 j17 j18 j19 j20 j21 j22 j23 j24 j25 j26 j27 j28 j29 j30 j31 j32 j33 j34 j35 j36 j37 j38 j39 j40 j41 j42 j43 j44 j45 j46 j47 j48 j49 j50 j51 j52 j53 j54 j55 j56 j57 j58 j59 j60 j61 j62 j63 j64 j65 j66 j67 j68 j69 j70 d
  have HI2 := Lib.hid hI
  have HP2 := Lib.hid hP
  have HT2 := Lib.hid hT
  have HW2 := Lib.hid hW
  have HG2 := Lib.hid hG
  have HLT := Lib.hid hlt
  have HPS := Lib.hid hps
  clear hI hP hT hW hG hlt hps
  simp only [tail5, body5, Try.f5, Option.getD_some, num]
  repeat (first
      | refine r_end ?_ | refine r_skip ?_ | (refine r_region ?_; simp only [List.size_toArray, List.length_cons, List.length_nil, Nat.reduceAdd, Nat.zero_add, List.range, List.range.loop])
      | refine r_seq ?_
      | (refine r_op rfl rfl (by decide) (fun w₁ h₁ K hK => ?_); obtain ⟨dd, hdd⟩ := h₁; subst hdd; (try simp only [at_at', alloc_at']); go_simp
         refine hK _ _ ⟨fun e he => (by have hm := mem_listed he; simp [go_sem] at hm), ?_⟩; clear hK K; try walk_nrm))
  refine r_callx (ints_calls (w := w2.at _) (HT2.out.1.rel ⟨_, rfl⟩) (by have := HLT.out; omega) (fun _ _ => id)) rfl rfl (by decide) rfl (by simp only [List.map_toArray, List.map_cons, List.map_nil]; rfl) (fun S' u w3 hp => ?_)
  obtain ⟨hS', hu, hg, _⟩ := hp
  have hS' := hS'.symm; subst hS'
  have hg : w2.grownBy w3 none := ⟨hg.os, hg.tape, hg.output, hg.size, hg.block⟩
  have HU := Lib.hid (Held.own (S := fun _ => False) hu (fun _ _ => id) (by have := HLT.out; omega))
  have HP := Lib.hid (HP2.out.shun hg (More.same _ _ _))
  have HI := Lib.hid (HI2.out.kept hg)
  have HT := Lib.hid (HT2.out.kept hg)
  have HW := Lib.hid (HW2.out.kept hg (by cases want.ownBlock <;> simp))
  have HG := Lib.hid (grown_trans HG2.out hg)
  have G3 := Lib.hid (grown_refl w3 none)
  have M3 := Lib.hid (More.same (fun _ : Loc => False) w3 w3)
  have HS3 := Lib.hid (show SL (fun _ => False) w3 from fun l h => h.elim)
  clear hu hg HI2 HP2 HT2 HW2 HG2
  try walk_nrm
  repeat (first
      | refine r_end ?_ | refine r_skip ?_ | (refine r_region ?_; simp only [List.size_toArray, List.length_cons, List.length_nil, Nat.reduceAdd, Nat.zero_add, List.range, List.range.loop])
      | refine r_seq ?_
      | (refine r_op rfl rfl (by decide) (fun w₁ h₁ K hK => ?_); obtain ⟨dd, hdd⟩ := h₁; subst hdd; (try simp only [at_at', alloc_at']); go_simp
         refine hK _ _ ⟨fun e he => (by have hm := mem_listed he; simp [go_sem] at hm), ?_⟩; clear hK K; try walk_nrm))
  refine r_callx (merge_at (heldP_at ((HP.out.shun G3.out M3.out)) _).parts ((HU.out.shun G3.out M3.out).1.rel ⟨_, rfl⟩) (by have := HLT.out; omega) (HS3.out.up (Nat.le_refl _))) rfl rfl (by decide) rfl (by simp only [List.map_toArray, List.map_cons, List.map_nil]; rfl) (fun S4 a w4 hp => ?_)
  obtain ⟨hm, hown, hg, hcl⟩ := hp
  have hg : w3.grownBy w4 none := ⟨hg.os, hg.tape, hg.output, hg.size, hg.block⟩
  have hm : More (fun _ => False) S4 w3 w4 := hm
  have hown : w4.ownsRow (w3.heap.size + 1) 3 1 a (mergeR ps ts).length ((mergeR ps ts).map num) := hown
  have ga := Lib.hid hg
  have ma := Lib.hid hm
  have oa := Lib.hid hown
  have ca' := Lib.hid hcl
  have M4 := Lib.hid (M3.out.trans hm G3.out.size hg.size)
  have G4 := Lib.hid (grown_trans G3.out hg)
  have HS4 := Lib.hid (hm.sl HS3.out hg.size)
  clear hm hown hg hcl
  try walk_nrm
  repeat (first
      | refine r_end ?_ | refine r_skip ?_ | (refine r_region ?_; simp only [List.size_toArray, List.length_cons, List.length_nil, Nat.reduceAdd, Nat.zero_add, List.range, List.range.loop])
      | refine r_seq ?_
      | (refine r_op rfl rfl (by decide) (fun w₁ h₁ K hK => ?_); obtain ⟨dd, hdd⟩ := h₁; subst hdd; (try simp only [at_at', alloc_at']); go_simp
         refine hK _ _ ⟨fun e he => (by have hm := mem_listed he; simp [go_sem] at hm), ?_⟩; clear hK K; try walk_nrm))
  refine r_callx (merge_at (heldP_at ((HP.out.shun G4.out M4.out)) _).parts ((HU.out.shun G4.out M4.out).1.rel ⟨_, rfl⟩) (by have := HLT.out; omega) (HS4.out.up (Nat.le_refl _))) rfl rfl (by decide) rfl (by simp only [List.map_toArray, List.map_cons, List.map_nil]; rfl) (fun S5 b w5 hp => ?_)
  obtain ⟨hm, hown, hg, hcl⟩ := hp
  have hg : w4.grownBy w5 none := ⟨hg.os, hg.tape, hg.output, hg.size, hg.block⟩
  have hm : More S4 S5 w4 w5 := hm
  have hown : w5.ownsRow (w4.heap.size + 1) 3 1 b (mergeR ps ts).length ((mergeR ps ts).map num) := hown
  have gb := Lib.hid hg
  have mb := Lib.hid hm
  have ob := Lib.hid hown
  have cb := Lib.hid hcl
  have M5 := Lib.hid (M4.out.trans hm G4.out.size hg.size)
  have G5 := Lib.hid (grown_trans G4.out hg)
  have HS5 := Lib.hid (hm.sl HS4.out hg.size)
  clear hm hown hg hcl
  try walk_nrm
  repeat (first
      | refine r_end ?_ | refine r_skip ?_ | (refine r_region ?_; simp only [List.size_toArray, List.length_cons, List.length_nil, Nat.reduceAdd, Nat.zero_add, List.range, List.range.loop])
      | refine r_seq ?_
      | (refine r_op rfl rfl (by decide) (fun w₁ h₁ K hK => ?_); obtain ⟨dd, hdd⟩ := h₁; subst hdd; (try simp only [at_at', alloc_at']); go_simp
         refine hK _ _ ⟨fun e he => (by have hm := mem_listed he; simp [go_sem] at hm), ?_⟩; clear hK K; try walk_nrm))
  refine r_callx (merge_at (heldP_at ((HP.out.shun G5.out M5.out)) _).parts ((HU.out.shun G5.out M5.out).1.rel ⟨_, rfl⟩) (by have := HLT.out; omega) (HS5.out.up (Nat.le_refl _))) rfl rfl (by decide) rfl (by simp only [List.map_toArray, List.map_cons, List.map_nil]; rfl) (fun S6 c w6 hp => ?_)
  obtain ⟨hm, hown, hg, hcl⟩ := hp
  have hg : w5.grownBy w6 none := ⟨hg.os, hg.tape, hg.output, hg.size, hg.block⟩
  have hm : More S5 S6 w5 w6 := hm
  have hown : w6.ownsRow (w5.heap.size + 1) 3 1 c (mergeR ps ts).length ((mergeR ps ts).map num) := hown
  have gc := Lib.hid hg
  have mc := Lib.hid hm
  have oc := Lib.hid hown
  have cc := Lib.hid hcl
  have M6 := Lib.hid (M5.out.trans hm G5.out.size hg.size)
  have G6 := Lib.hid (grown_trans G5.out hg)
  have HS6 := Lib.hid (hm.sl HS5.out hg.size)
  clear hm hown hg hcl
  try walk_nrm
  repeat (first
      | refine r_end ?_ | refine r_skip ?_ | (refine r_region ?_; simp only [List.size_toArray, List.length_cons, List.length_nil, Nat.reduceAdd, Nat.zero_add, List.range, List.range.loop])
      | refine r_seq ?_
      | (refine r_op rfl rfl (by decide) (fun w₁ h₁ K hK => ?_); obtain ⟨dd, hdd⟩ := h₁; subst hdd; (try simp only [at_at', alloc_at']); go_simp
         refine hK _ _ ⟨fun e he => (by have hm := mem_listed he; simp [go_sem] at hm), ?_⟩; clear hK K; try walk_nrm))
  have s3 : w3.heap.size ≤ w4.heap.size := ga.out.size
  have s4 : w4.heap.size ≤ w5.heap.size := gb.out.size
  have s5 : w5.heap.size ≤ w6.heap.size := gc.out.size
  have kA : ∀ k, a.ownBlock = some k → w3.heap.size + 1 ≤ k ∧ k < w4.heap.size := fun k hk => oa.out.lt k hk
  have kB : ∀ k, b.ownBlock = some k → w4.heap.size + 1 ≤ k ∧ k < w5.heap.size := fun k hk => ob.out.lt k hk
  have kC : ∀ k, c.ownBlock = some k → w5.heap.size + 1 ≤ k ∧ k < w6.heap.size := fun k hk => oc.out.lt k hk
  have kW : ∀ k, want.ownBlock = some k → k < w3.heap.size := fun k hk => (HW.out.lt k hk).2
  have hle := mergeR_le ps ts
  have hlt := HLT.out
  have hA5 := oa.out.kept gb.out (by cases a.ownBlock <;> simp)
  have hA6 := hA5.kept gc.out (by cases a.ownBlock <;> simp)
  have cA5 : ∀ k, a.ownBlock = some k → ∀ x : Addr, x.block = k → ¬ S5 (.cell x) := fun k hk => mb.out.clear (kA k hk).2 (ca'.out k hk)
  have cA6 : ∀ k, a.ownBlock = some k → ∀ x : Addr, x.block = k → ¬ S6 (.cell x) := fun k hk => mc.out.clear (by have := (kA k hk).2; omega) (cA5 k hk)
  have cB6 : ∀ k, b.ownBlock = some k → ∀ x : Addr, x.block = k → ¬ S6 (.cell x) := fun k hk => mc.out.clear (kB k hk).2 (cb.out k hk)
  have hB6 : IntsAt S6 w6 b (mergeR ps ts) := row_ints ob.out gc.out cB6 (by omega)
  have hW6 : IntsAt S6 w6 want (mergeR ps ts) := row_ints HW.out G6.out (fun k hk => M6.out.clear (kW k hk) fun _ _ => id) (by omega)
  refine r_callx (three_calls (w := w6.at _) (own_rise (x := w3.heap.size) (by omega) hA6) hB6 (own_rise (x := w5.heap.size) (by omega) oc.out) hW6 (by omega) (fun z hz => ?_) (by show w3.heap.size ≤ w6.heap.size; omega) (by show w5.heap.size ≤ w6.heap.size; omega) (fun k h1 h2 => by have := kA k h1; have := kC k h2; omega) (fun k hk => ⟨fun e => by have := kA k e.symm; have := kB k hk; omega, fun e => by have := kC k e.symm; have := kB k hk; omega⟩)
      (fun k hk => ⟨fun e => by have := kA k e.symm; have := kW k hk; omega, fun e => by have := kC k e.symm; have := kW k hk; omega⟩)) rfl rfl (by decide) rfl (by simp only [List.map_toArray, List.map_cons, List.map_nil]; rfl) (fun S' r w7 hp => ?_)
  · rcases hz with h | h | h
    · exact cA6 _ h z rfl
    · exact cc.out _ h z rfl
    · exact HS6.out.new z h
  obtain ⟨hS', rfl, o7, t7, p7, z7, b7⟩ := hp
  have hS' := hS'.symm; subst hS'
  have g7 : w3.grownBy w7 none := by
    have z7 : w6.heap.size ≤ w7.heap.size := z7
    exact ⟨o7.trans G6.out.os, t7.trans G6.out.tape, p7.trans G6.out.output, by omega, fun k hk _ => (b7 k (by show k < w6.heap.size; omega) (fun e => by have := kA k e.symm; omega) (fun e => by have := kC k e.symm; omega)).trans (G6.out.block k hk (by simp))⟩
  have m7 : More (fun _ => False) S6 w3 w7 := fun l hl => by
    rcases M6.out l hl with h | ⟨n, h1, h2, h3⟩
    · exact .inl h
    · have z7 : w6.heap.size ≤ w7.heap.size := z7
      exact .inr ⟨n, h1, h2, by omega⟩
  have hP7 := HP.out.shun g7 m7
  have l := back_loop (S := S6) (cs := []) (X := AtLast Try.prog (PostW W)) (a0 := a0) (p0 := p0) (ca := ca) (cp := cp) (n := ps.length) (vt := vt) (vu := u) (w := w7) (u := ud) (hd := hd) hP7.parts.cell (fun i hi => by obtain ⟨ad, e, h⟩ := HI.out.parts.cell i hi; exact ⟨ad, e, g7.cell h (by simp)⟩) hP7.parts.clear (fun ad e => m7.clear (HI.out.top ad e) fun _ _ => id)
    (fun i hi => part_back HI.out HP.out g7 m7 i hi) HPS.out
  have L := Lib.hid l
  have T7 := Lib.hid (HT.out.shun g7 m7)
  have U7 := Lib.hid (HU.out.shun g7 m7)
  have L7 := Lib.hid (below_grown (grown_trans HG.out g7))
  clear l hP7 m7 g7 b7 z7 p7 t7 o7 hW6 hB6 cB6 cA6 cA5 hA6 hA5 hlt hle kW kC kB kA s5 s4 s3 ga gb gc ma mb mc oa ob oc ca' cb cc HU HP HI HT HW HG G3 M3 HS3 G4 M4 HS4 G5 M5 HS5 G6 M6 HS6
  try walk_nrm
  repeat (first
      | refine r_end ?_ | refine r_skip ?_ | (refine r_region ?_; simp only [List.size_toArray, List.length_cons, List.length_nil, Nat.reduceAdd, Nat.zero_add, List.range, List.range.loop])
      | refine r_block ?_
      | refine r_seq ?_
      | (refine r_op rfl rfl (by decide) (fun w₁ h₁ K hK => ?_); obtain ⟨dd, hdd⟩ := h₁; subst hdd; (try simp only [at_at', alloc_at']); go_simp
         refine hK _ _ ⟨fun e he => (by have hm := mem_listed he; simp [go_sem] at hm), ?_⟩; clear hK K; try walk_nrm))
  refine r_loop ?_
  have l := fun hh => L.out hh ps.length 0 (by omega)
  simp only [in5b, post5b, tail5, body5, L5a, L5b, Try.f5, Option.getD_some, num] at l
  refine l (fun j2 j3 j5 j7 j9 j10 j11 j14 j15 j16 j17 j18 j19 j20 j21 j22 j23 j24 j25 j26 j27 j28 j29 j30 j31 j32 j33 j34 j35 j36 j37 j38 j39 j40 j41 j42 j43 j44 j45 j46 j47 j48 j49 j50 j51 j52 j53 j54 j55 j56 j57 j58 j59 j60 j61 j62 j63 j64 j65 j66 j67 j68 j69 j70 d => ?_) _ _ _ _ _ _ _ _ _ _ _ _ _ _ _ _ _ _ _ _ _ _ _ _ _ _ _ _ _ _ _ _ _ _ _ _ _ _ _ _ _ _ _ _ _ _ _ _ _ _ _ _ _ _ _ _ _ _ _ _ _ _ _ _ _
  clear L l
  try simp only [tail5, body5, Try.f5, Option.getD_some, num]
  repeat (first
      | refine r_end ?_ | refine r_skip ?_ | (refine r_region ?_; simp only [List.size_toArray, List.length_cons, List.length_nil, Nat.reduceAdd, Nat.zero_add, List.range, List.range.loop])
      | refine r_seq ?_
      | (refine r_op rfl rfl (by decide) (fun w₁ h₁ K hK => ?_); obtain ⟨dd, hdd⟩ := h₁; subst hdd; (try simp only [at_at', alloc_at']); go_simp
         refine hK _ _ ⟨fun e he => (by have hm := mem_listed he; simp [go_sem] at hm), ?_⟩; clear hK K; try walk_nrm))
  refine r_callx (same_eq (U7.out.1.rel ⟨_, rfl⟩) (T7.out.1.rel ⟨_, rfl⟩)) rfl rfl (by decide) rfl (by simp only [List.map_toArray, List.map_cons, List.map_nil]; rfl) (fun S' r w' hp => ?_)
  obtain ⟨hS', rfl, d', rfl⟩ := hp
  have hS' := hS'.symm; subst hS'
  try walk_nrm
  repeat (first
      | refine r_end ?_ | refine r_skip ?_ | (refine r_region ?_; simp only [List.size_toArray, List.length_cons, List.length_nil, Nat.reduceAdd, Nat.zero_add, List.range, List.range.loop])
      | refine r_seq ?_
      | (refine r_op rfl rfl (by decide) (fun w₁ h₁ K hK => ?_); obtain ⟨dd, hdd⟩ := h₁; subst hdd; (try simp only [at_at', alloc_at']); go_simp
         refine hK _ _ ⟨fun e he => (by have hm := mem_listed he; simp [go_sem] at hm), ?_⟩; clear hK K; try walk_nrm))
  refine r_ret ?_
  refine .here ⟨rfl, fun w₁ r => ⟨.bool true, ?_, rfl, ?_⟩⟩
  · simp [G, stepG, unwind, doReturn, results, Frame.at, base, Try.func5, Try.f5, seen, GStep.after]
  · obtain ⟨d, rfl⟩ := r
    have k := L7.out
    exact ⟨k.os, k.tape, k.output, k.size, k.block⟩
end Go.Proofs.Ytdpagejckahkkaa

namespace Go.Proofs.Ytdpagejckahkkaa
open Go Go.Conc Go.RowKit Net Go.ChangeShapes Go.WideShapes Go.ChangeAt

set_option maxHeartbeats 8000000 in
theorem crewMerge_reach (W : World) {a0 : Option Addr} {ca : Nat} {ps : List (List Int)} {hd : Nat → Value} {vt : Value} {ts : List Int} (hI : InP W a0 ps hd) (hT : Held (fun _ => False) W vt ts) (hlen : ∀ xs ∈ ps, xs.length * 8 ≤ 140737488351232) (hps : ps.length * 24 ≤ 140737488351232) (hlt : ts.length * 8 ≤ 140737488351232) :
    Net.Reach Try.prog (fun _ => False) (G ((base 5).at ⟨#[.slice a0 ps.length ca, vt, undef, undef, undef, undef, undef, undef, undef, undef, undef, undef, undef, undef, undef, undef, undef, undef, undef, undef, undef, undef, undef, undef, undef, undef, undef, undef, undef, undef, undef, undef, undef, undef, undef, undef, undef, undef, undef, undef, undef, undef, undef, undef, undef, undef, undef, undef, undef, undef, undef, undef, undef, undef, undef, undef, undef, undef, undef, undef, undef, undef, undef, undef, undef, undef, undef, undef, undef, undef, undef], []⟩ [.code body5]) []) W (AtLast Try.prog (PostW W)) := by
  have HI := Lib.hid hI
  have HT := Lib.hid hT
  have HLEN := Lib.hid hlen
  have HPS := Lib.hid hps
  have HLT := Lib.hid hlt
  clear hI hT hlen hps hlt
  simp only [body5, Try.f5, Option.getD_some]
  repeat (first
      | refine r_end ?_ | refine r_skip ?_ | (refine r_region ?_; simp only [List.size_toArray, List.length_cons, List.length_nil, Nat.reduceAdd, Nat.zero_add, List.range, List.range.loop])
      | refine r_seq ?_
      | (refine r_op rfl rfl (by decide) (fun w₁ h₁ K hK => ?_); obtain ⟨dd, hdd⟩ := h₁; subst hdd; (try simp only [at_at', alloc_at']); go_simp
         refine hK _ _ ⟨fun e he => (by have hm := mem_listed he; simp [go_sem] at hm), ?_⟩; clear hK K; try walk_nrm))
  refine r_callx (refMerge_calls (w := W.at _) (HI.out.parts.none (rel_grown ⟨_, rfl⟩ none)) (HT.out.1.rel ⟨_, rfl⟩) (by have := HLT.out; omega) (fun _ _ => id)) rfl rfl (by decide) rfl (by simp only [List.map_toArray, List.map_cons, List.map_nil]; rfl) (fun S' want w1 hp => ?_)
  obtain ⟨hS', hown, hg⟩ := hp
  have hS' := hS'.symm; subst hS'
  have hg : W.grownBy w1 none := ⟨hg.os, hg.tape, hg.output, hg.size, hg.block⟩
  have hown : w1.ownsRow W.heap.size 3 1 want (mergeR ps ts).length ((mergeR ps ts).map num) := hown
  have HW := Lib.hid hown
  have HG := Lib.hid hg
  clear hown hg
  try walk_nrm
  repeat (first
      | refine r_end ?_ | refine r_skip ?_ | (refine r_region ?_; simp only [List.size_toArray, List.length_cons, List.length_nil, Nat.reduceAdd, Nat.zero_add, List.range, List.range.loop])
      | refine r_block ?_
      | refine r_seq ?_
      | (refine r_op rfl rfl (by decide) (fun w₁ h₁ K hK => ?_); obtain ⟨dd, hdd⟩ := h₁; subst hdd; (try simp only [at_at', alloc_at']); go_simp
         refine hK _ _ ⟨fun e he => (by have hm := mem_listed he; simp [go_sem] at hm), ?_⟩; clear hK K; try walk_nrm))
  refine r_loop ?_
  have c0 : Cop w1 ps 0 (.slice none 0 0) w1 := ⟨grown_refl w1 none, [], rfl, World.ownsRow_nil _ _ _ _, (fun u hu => by cases hu), (fun j u xs hj => by simp at hj)⟩
  have l := fun hh => copy_loop (cs := []) (X := AtLast Try.prog (PostW W)) (ca := ca) (vt := vt) (want := want) (W0 := w1) rfl HPS.out (HI.out.parts.none HG.out) HLEN.out hh ps.length 0 w1 (.slice none 0 0) (by omega) c0
  have L := Lib.hid l
  clear l c0
  have l := L.out
  simp only [tail5, body5, L5a, L5b, Try.f5, Option.getD_some, num] at l
  refine l (fun p w2 j2 j3 j8 j9 j10 j11 j12 j13 j14 j15 j16 j17 j18 j19 j20 j21 j22 j23 j24 j25 j26 j27 j28 j29 j30 j31 j32 j33 j34 j35 j36 j37 j38 j39 j40 j41 j42 j43 j44 j45 j46 j47 j48 j49 j50 j51 j52 j53 j54 j55 j56 j57 j58 j59 j60 j61 j62 j63 j64 j65 j66 j67 j68 j69 j70 d hC => ?_) _ _ _ _ _ _ _ _ _ _ _ _ _ _ _ _ _ _ _ _ _ _ _ _ _ _ _ _ _ _ _ _ _ _ _ _ _ _ _ _ _ _ _ _ _ _ _ _ _ _ _ _ _ _ _ _ _ _ _ _ _ _ _ _ _ _
  clear l L
  have g12 := hC.1
  obtain ⟨p0, cp, ud, rfl, hP⟩ := hC.held HLEN.out
  have r := merge_rest W w2 (ca := ca) (cp := cp) (vt := vt) (want := want) (HI.out.kept (grown_trans HG.out g12)) hP (HT.out.kept (grown_trans HG.out g12)) (HW.out.kept g12 (by cases want.ownBlock <;> simp)) (grown_trans HG.out g12) (by have := HPS.out; omega) HLT.out
  clear hC hP g12 HI HT HLEN HPS HLT HW HG
  simp only [tail5, body5, L5a, L5b, Try.f5, Option.getD_some, num] at r
  exact r _ _ _ _ _ _ _ _ _ _ _ _ _ _ _ _ _ _ _ _ _ _ _ _ _ _ _ _ _ _ _ _ _ _ _ _ _ _ _ _ _ _ _ _ _ _ _ _ _ _ _ _ _ _ _ _ _ _ _ _ _ _ _ _ _ _

theorem mergeLaw_run (W : World) {a0 : Option Addr} {ca : Nat} {ps : List (List Int)} {hd : Nat → Value} {vt : Value} {ts : List Int} (hI : InP W a0 ps hd) (hT : Held (fun _ => False) W vt ts) (hlen : ∀ xs ∈ ps, xs.length * 8 ≤ 140737488351232) (hps : ps.length * 24 ≤ 140737488351232) (hlt : ts.length * 8 ≤ 140737488351232) :
    ∃ M last o w' t', runNT Try.prog (M + 1) (solo (G (Frame.enter Try.prog 5 #[.slice a0 ps.length ca, vt] .normal) []) W) #[] = (.ended o w', t') ∧ runN Try.prog M (solo (G (Frame.enter Try.prog 5 #[.slice a0 ps.length ca, vt] .normal) []) W) = .next last ∧
    step Try.prog last = .ended o w' ∧ Conc.Good Try.prog (PostW W) last o w' t' := by
  have e : Frame.enter Try.prog 5 #[.slice a0 ps.length ca, vt] .normal = ((base 5).at ⟨#[.slice a0 ps.length ca, vt, undef, undef, undef, undef, undef, undef, undef, undef, undef, undef, undef, undef, undef, undef, undef, undef, undef, undef, undef, undef, undef, undef, undef, undef, undef, undef, undef, undef, undef, undef, undef, undef, undef, undef, undef, undef, undef, undef, undef, undef, undef, undef, undef, undef, undef, undef, undef, undef, undef, undef, undef, undef, undef, undef, undef, undef, undef, undef, undef, undef, undef, undef, undef, undef, undef, undef, undef, undef, undef], []⟩ [.code body5]) := by
    simp [Frame.enter, Frame.at, Try.func5, base, body5, Try.f5]
  rw [e]
  exact (crewMerge_reach W hI hT hlen hps hlt).ends (stands_first _ _)

theorem weightsAll_mem {H : Type} {P : Program} {e : TypeId} : ∀ {l : List (DataW H)} {d : DataW H}, d ∈ l → ∀ n ∈ d.weights P e, n ∈ DataW.weightsAll P e l
  | d' :: r, d, hd, n, hn => by
    simp only [DataW.weightsAll, List.mem_append]
    rcases List.mem_cons.1 hd with rfl | h
    · exact Or.inl hn
    · exact Or.inr (weightsAll_mem h n hn)
theorem sized_inner {H : Type} {P : Program} {ts : List TypeId} {ds : List (DataW H)} (h : (DataW.weightsEach P ts ds).all (· ≤ reachBytes) = true) {j : Nat} {t e q : TypeId} {elems spare e' sp' : List (DataW H)}
    (ht : ts[j]? = some t) (hd : ds[j]? = some (.slice elems spare)) (hu : P.underlying t = some (.slice e)) (hu2 : P.underlying e = some (.slice q)) (hx : DataW.slice e' sp' ∈ elems) : (e'.length + sp'.length) * P.bytesOf q ≤ reachBytes := by
  refine of_decide_eq_true (List.all_eq_true.1 h _ (DataW.weights_mem_each ht hd _ ?_))
  simp only [DataW.weights, hu, List.mem_cons, List.mem_append]
  exact Or.inr (Or.inl (weightsAll_mem hx _ (by simp [DataW.weights, hu2])))

theorem try_cells22 : Try.prog.cellsOf 22 = 1 := by kernel_rfl
theorem try_bytes22 : Try.prog.bytesOf 22 = 24 := by kernel_rfl
/-- A slice of slices of ints that is handed in. -/
theorem open_parts {H : Type} {enc : TypeId × Value → H} {W : World} {a0 : Option Addr} {len cap : Nat} {d : DataW H} {p : List MemPlace} (h : DataW.Trod enc Try.prog W 0 (fun _ => true) true 28 (.slice a0 len cap) d p) (hlt : ∀ x ∈ p, x.block < W.heap.size) (hlow : ∀ k, Value.ownBlock (.slice a0 len cap) = some k → k < W.heap.size)
    (hsz : ∀ elems spare, d = .slice elems spare → (elems.length + spare.length) * 24 ≤ reachBytes) (hin : ∀ elems spare e' sp', d = .slice elems spare → DataW.slice e' sp' ∈ elems → (e'.length + sp'.length) * 8 ≤ reachBytes) :
    ∃ (ps : List (List Int)) (hd : Nat → Value), ps.length = len ∧ InP W a0 ps hd ∧ ps.length * 24 ≤ 140737488351232 ∧ ∀ xs ∈ ps, xs.length * 8 ≤ 140737488351232 := by
  obtain ⟨fuel, hf⟩ := h
  rcases DataW.trod_slice Try.underlying28 hf with ⟨hcs, hx⟩ | ⟨a, len', cap', elems, rest, n, _, hcs, hx, _, hl, hm, hlen, hel, _, _⟩
  · simp [Value.cells] at hcs
    obtain ⟨rfl, rfl, rfl⟩ := hcs
    exact ⟨[], fun _ => undef, rfl, ⟨⟨(fun j hj => by simp at hj), (fun ad e => by cases e), (fun j xs hj => by simp at hj)⟩, (fun ad e => by cases e), (fun j xs hj => by simp at hj)⟩, by simp, by simp⟩
  · simp [Value.cells] at hcs
    obtain ⟨rfl, rfl, rfl⟩ := hcs
    simp only [Prod.mk.injEq] at hx
    obtain ⟨rfl, rfl⟩ := hx
    have hs := hsz _ _ rfl
    simp only [List.length_map, reachBytes] at hs
    have each : ∀ i, ∃ xs : List Int, i < len → ∃ v, W.cell? (a.add i) = some v ∧ IntsAt (fun _ => False) W v xs ∧ (∀ k, v.ownBlock = some k → xs ≠ [] → k < W.heap.size) ∧ xs.length * 8 ≤ 140737488351232 := by
      intro i
      by_cases hi : i < len
      · have he := hel i hi
        rw [List.getElem?_eq_getElem (by omega), try_cells22, Nat.mul_one, Option.bind_eq_some_iff] at he
        obtain ⟨cs, hc, ht⟩ := he
        have hmem : elems[i]'(by omega) ∈ elems := List.getElem_mem _
        generalize elems[i]'(by omega) = y at ht hmem
        obtain ⟨d', p'⟩ := y
        have hv : ∃ b0 l c, cs = [.slice b0 l c] := by
          rcases DataW.trod_slice Try.underlying22 ht with ⟨h, _⟩ | ⟨b, l, c, _, _, _, _, h, _⟩
          · exact ⟨_, _, _, h⟩
          · exact ⟨_, _, _, h⟩
        obtain ⟨b0, l, c, rfl⟩ := hv
        have hT : DataW.Trod enc Try.prog W 0 (fun _ => true) true 22 (.slice b0 l c) d' p' := ⟨n, by simpa [Value.cells] using ht⟩
        obtain ⟨xs, h1, h2, h3, _⟩ := open_arg hT (fun x hx => hlt x (List.mem_append.2 (.inr (List.mem_flatMap.2 ⟨_, List.mem_append.2 (.inl hmem), hx⟩)))) fun e' sp' e => by
          subst e
          exact hin _ _ e' sp' rfl (List.mem_map.2 ⟨_, hmem, rfl⟩)
        exact ⟨xs, fun _ => ⟨_, cell_of_cells?_one hc, h1, h2, h3⟩⟩
      · exact ⟨[], fun h => absurd h hi⟩
    obtain ⟨f, hf⟩ := Classical.axiomOfChoice each
    have get : ∀ j xs, ((List.range len).map f)[j]? = some xs → j < len ∧ f j = xs := fun j xs hj => by
      rw [List.getElem?_map, Option.map_eq_some_iff] at hj
      obtain ⟨k, hk, e⟩ := hj
      have hj' : j < len := by have := (List.getElem?_eq_some_iff.1 hk).1; simpa using this
      rw [List.getElem?_range hj'] at hk
      obtain rfl := Option.some.inj hk
      exact ⟨hj', e⟩
    have val : ∀ j, j < len → W.cell? (a.add j) = some ((W.cell? (a.add j)).getD undef) := fun j hj => by
      obtain ⟨v, h, _⟩ := hf j hj
      rw [h]
      rfl
    refine ⟨(List.range len).map f, fun j => (W.cell? (a.add j)).getD undef, by simp, ⟨⟨fun j hj => ⟨a, rfl, val j (by simpa using hj)⟩, fun _ _ _ _ => id, fun j xs hj => ?_⟩, fun ad e => ?_, fun j xs hj hn k hk => ?_⟩, ?_, fun xs hx => ?_⟩
    · obtain ⟨h1, rfl⟩ := get j xs hj
      obtain ⟨v, h2, h3, _⟩ := hf j h1
      simpa [h2] using h3
    · cases e
      exact hlow _ rfl
    · obtain ⟨h1, rfl⟩ := get j xs hj
      obtain ⟨v, h2, _, h3, _⟩ := hf j h1
      exact h3 k (by simpa [h2] using hk) hn
    · simp; omega
    · obtain ⟨j, hj, rfl⟩ := List.mem_map.1 hx
      exact (hf j (List.mem_range.1 hj)).choose_spec.2.2.2

theorem mergeLaw_lifted (os : Os) (started : os.Started) (H : Type) (enc : TypeId × Value → H) :
    ReturnsInLeavingWide {} Try.checked os 5 .any (Rows.crewMergeSpec.pre6 enc Try.prog Try.f5 Rows.crewMergeRow.domain false) (Rows.crewMergeSpec.post enc Try.prog Try.f5 false true false false) := by
  refine returnsInLeavingWide_of_change_sized (C := Try.checked) try_own started Try.func5
    (ChangeSpec.witness6 (enc := enc) (C := Try.checked) false ⟨#[], #[.slice none 0 0, .slice none 0 0], []⟩ 8 (by kernel_rfl) (by kernel_rfl) (by kernel_rfl) (by kernel_rfl)) ?_
  intro W base args ds gs before hval0 hW _ hsz0 _
  have hsz : (DataW.weightsEach Try.prog (Try.f5.params.toList ++ Rows.crewMergeSpec.plain.varTypes Try.prog) (ds ++ gs)).all (· ≤ reachBytes) = true := hsz0
  clear hsz0
  have hval : ∀ (j : Nat) t v, Try.f5.params[j]? = some t → args[j]? = some v → Value.okWide Try.prog W .any base t v := hval0
  have hW' := hW
  obtain ⟨p, q, hA0, hV, rfl, _, _⟩ := hW
  have hA : DataW.TrodAll enc Try.prog W 0 (fun _ => true) true Try.f5.params.toList args.toList ds p := hA0
  rw [Try.params5] at hA hval hsz
  obtain ⟨v0, v1, d0, d1, p0, p1, rfl, rfl, rfl, h0, h1⟩ := trodAll_two hA
  obtain ⟨rfl, rfl⟩ := trodVars_none hV
  obtain ⟨a0, len0, cap0, rfl⟩ := okWide_slice Try.underlying28 (hval 0 28 v0 rfl rfl)
  obtain ⟨a1, len1, cap1, rfl⟩ := okWide_slice Try.underlying22 (hval 1 22 v1 rfl rfl)
  have k0 := okWide_low Try.underlying28 (hval 0 28 _ rfl rfl)
  have k1 := okWide_low Try.underlying22 (hval 1 22 _ rfl rfl)
  clear hA0 hval0
  simp only [List.append_nil] at hW'
  have hlt : ∀ x ∈ p0 ++ p1, x.block < W.heap.size := fun x hx => by simpa using hW'.lt x hx
  have hl0 : ∀ x ∈ p0, x.block < W.heap.size := fun x hx => hlt x (List.mem_append.2 (.inl hx))
  have hl1 : ∀ x ∈ p1, x.block < W.heap.size := fun x hx => hlt x (List.mem_append.2 (.inr hx))
  obtain ⟨ps, hd, rfl, iP, s0, sl⟩ := open_parts h0 hl0 k0 (fun elems spare e => by
    subst e
    have := sized_slice hsz (j := 0) (t := 28) (e := 22) rfl rfl Try.underlying28
    rwa [try_bytes22] at this) (fun elems spare e' sp' e hx => by
    subst e
    have := sized_inner hsz (j := 0) (t := 28) (e := 22) (q := 3) rfl rfl Try.underlying28 Try.underlying22 hx
    rwa [try_bytes3] at this)
  obtain ⟨ts, i1, b1, s1, _⟩ := open_arg h1 hl1 fun elems spare e => by
    subst e
    have := sized_slice hsz (j := 1) (t := 22) (e := 3) rfl rfl Try.underlying22
    rwa [try_bytes3] at this
  obtain ⟨M, last, o, w', t', r1, r2, r3, r4⟩ := mergeLaw_run W (ca := cap0) iP ⟨i1, k1⟩ sl s0 s1
  refine ⟨M, last, o, w', t', r1, r2, r3, r4.mono fun v hF => ?_⟩
  obtain ⟨rfl, hbelow⟩ : PostW W v w' := hF
  have t0 : DataW.Trod enc Try.prog w' 0 (fun b => decide (b < W.heap.size)) true 28 _ d0 p0 := Below.trod try_laid (by kernel_rfl) (of_decide_eq_true (by kernel_rfl)) h0 hbelow hl0
  have t1 : DataW.Trod enc Try.prog w' 0 (fun b => decide (b < W.heap.size)) true 22 _ d1 p1 := Below.trod try_laid (by kernel_rfl) (of_decide_eq_true (by kernel_rfl)) h1 hbelow hl1
  exact ⟨_, _, _, [], _, [], hW', trodAll_mk1 (shut_bool Try.underlying4 true), trodAll_mk2 t0 t1, rfl, hbelow.frame _, fun h => by cases h⟩

/-- THE STATEMENT. -/
theorem crew_merge : Rows.CrewMergeSaid :=
  OpenClaim.holds_of_wide_leaving 5 Try.f5 rfl rfl rfl rfl rfl rfl rfl ⟨rfl, rfl, rfl, rfl, rfl⟩ rfl rfl rfl rfl rfl (by kernel_rfl) Try.func5 (by kernel_rfl)
    (of_decide_eq_true (by kernel_rfl)) (by unfold Func.isWrapper; first | (rw [if_pos (by decide +kernel)]; kernel_rfl) | (rw [if_neg (by decide +kernel)]; exact ⟨rfl, rfl⟩))
    (fun os started H enc _ => mergeLaw_lifted os started H enc)

#print axioms crew_merge
end Go.Proofs.Ytdpagejckahkkaa
