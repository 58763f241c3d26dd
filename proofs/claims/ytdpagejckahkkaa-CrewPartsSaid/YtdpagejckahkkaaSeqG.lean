/- The document's own Merge beside goroutines that only leave: of each turn the number that stands at the place of as many turns as there were of its part. -/
import Derived.Test.YtdpagejckahkkaaSeqF
set_option linter.unusedSimpArgs false
set_option linter.unusedVariables false
namespace Go.Proofs.Ytdpagejckahkkaa.Net
open Go Go.Conc Go.RowKit

noncomputable def body13 : Code := Try.f13.body.getD .skip
noncomputable def tail13 : Nat → Code
  | 0 => body13
  | n + 1 => match tail13 n with | .seq _ r => r | _ => .skip
noncomputable def L13a : Code := match tail13 3 with | .seq (.seq _ (.block _ (.loop c))) _ => c | _ => .skip
noncomputable def in13 : Code := match L13a with | .seq _ (.seq (.block _ c) _) => c | _ => .skip
noncomputable def post13 : Code := match L13a with | .seq _ (.seq _ c) => c | _ => .skip
noncomputable def L13b : Code := match in13 with | .seq _ (.seq _ (.seq _ (.seq (.seq _ (.block _ (.loop c))) _))) => c | _ => .skip
noncomputable def rest13 : Code := match in13 with | .seq _ (.seq _ (.seq _ (.seq _ c))) => c | _ => .skip

section
variable {S : Loc → Prop} {cs : List Frame} {X : (Loc → Prop) → Goroutine → World → Prop} {a0 b0 : Option Addr} {ca cb n m : Nat} {out : Value}


set_option maxRecDepth 100000 in
set_option maxHeartbeats 4000000 in
/-- How many turns there were of part p. -/
theorem ref_count {w : World} {i : Nat} {p : Int} (him : i < m) (hmax : m ≤ 4611686018427387904) (hbS : ∀ ad, b0 = some ad → ∀ x : Addr, x.block = ad.block → ¬ S (.cell x)) : ∀ (rest : List Int) (k q : Nat), k + rest.length = i → q ≤ k → (∀ (j : Nat) u, rest[j]? = some u → ∃ ad, b0 = some ad ∧ w.cell? (ad.add (k + j)) = some (num u)) →
    (h : ∀ j2 j3 j9 j10 j11 j12 j13 j14 j15 j16 j17 j18 j19 j20 j21 j22 j23 j24 j25 j26 j27 j28 j29 j30 j31 j32 j33 j34 j35 j36 j37 j38 j39 j40 j41 j42 j43 j44 j45 j46 j47 j48 j49 j50 j51 j52 j53 j54 j55 j56 j57 j58 j59 j60 j61 d, Reach Try.prog S (G ((base 13).at ⟨#[.slice a0 n ca, .slice b0 m cb, j2, j3, .slice none 0 0, out, num i, num p, num ((q + rest.count p : Nat) : Int), j9, j10, j11, j12, j13, j14, j15, j16, j17, j18, j19, j20, j21, j22, j23, j24, j25, j26, j27, j28, j29, j30, j31, j32, j33, j34, j35, j36, j37, j38, j39, j40, j41, j42, j43, j44, j45, j46, j47, j48, j49, j50, j51, j52, j53, j54, j55, j56, j57, j58, j59, j60, j61], []⟩ [.code rest13, .inBlock 1, .code post13, .inLoop L13a, .inBlock 0, .code (tail13 4)]) cs) (w.at d) X) →
    ∀ (j2 j3 j10 j11 j12 j13 j14 j15 j16 j17 j18 j19 j20 j21 j22 j23 j24 j25 j26 j27 j28 j29 j30 j31 j32 j33 j34 j35 j36 j37 j38 j39 j40 j41 j42 j43 j44 j45 j46 j47 j48 j49 j50 j51 j52 j53 j54 j55 j56 j57 j58 j59 j60 j61 : Value) (d : Nat), Reach Try.prog S (G ((base 13).at ⟨#[.slice a0 n ca, .slice b0 m cb, j2, j3, .slice none 0 0, out, num i, num p, num q, num k, j10, j11, j12, j13, j14, j15, j16, j17, j18, j19, j20, j21, j22, j23, j24, j25, j26, j27, j28, j29, j30, j31, j32, j33, j34, j35, j36, j37, j38, j39, j40, j41, j42, j43, j44, j45, j46, j47, j48, j49, j50, j51, j52, j53, j54, j55, j56, j57, j58, j59, j60, j61], []⟩ [.code L13b, .inLoop L13b, .inBlock 2, .code rest13, .inBlock 1, .code post13, .inLoop L13a, .inBlock 0, .code (tail13 4)]) cs) (w.at d) X := by
  intro rest
  induction rest with
  | nil =>
    intro k q hk hq hr h j2 j3 j10 j11 j12 j13 j14 j15 j16 j17 j18 j19 j20 j21 j22 j23 j24 j25 j26 j27 j28 j29 j30 j31 j32 j33 j34 j35 j36 j37 j38 j39 j40 j41 j42 j43 j44 j45 j46 j47 j48 j49 j50 j51 j52 j53 j54 j55 j56 j57 j58 j59 j60 j61 d
    have hk' : ¬ (k < i) := by simp at hk; omega
    simp only [L13b, rest13, post13, in13, L13a, tail13, body13, Try.f13, Option.getD_some, num, List.count_nil, Nat.add_zero] at h ⊢
    refine r_seq ?_
    refine r_seq ?_
    refine r_region ?_; simp only [List.size_toArray, List.length_cons, List.length_nil, Nat.reduceAdd, Nat.zero_add, List.range, List.range.loop]
    iterate 3 (first
      | (refine r_op rfl rfl (by decide) (fun w₁ h₁ K hK => ?_); obtain ⟨dd, hdd⟩ := h₁; subst hdd; (try simp only [at_at']); go_simp
         refine hK _ _ ⟨fun e he => (by have hm := mem_listed he; simp [go_sem] at hm), ?_⟩; clear hK K; try walk_nrm))
    refine r_end ?_
    refine r_cond (t := false) (by simp [Act.eval, hk']) ?_; simp only [if_true, if_false, Bool.false_eq_true, ↓reduceIte]
    refine r_exit rfl ?_
    exact h _ _ _ _ _ _ _ _ _ _ _ _ _ _ _ _ _ _ _ _ _ _ _ _ _ _ _ _ _ _ _ _ _ _ _ _ _ _ _ _ _ _ _ _ _ _ _ _ _ _ _ _ _ _ _ _
  | cons u rest ih =>
    intro k q hk hq hr h j2 j3 j10 j11 j12 j13 j14 j15 j16 j17 j18 j19 j20 j21 j22 j23 j24 j25 j26 j27 j28 j29 j30 j31 j32 j33 j34 j35 j36 j37 j38 j39 j40 j41 j42 j43 j44 j45 j46 j47 j48 j49 j50 j51 j52 j53 j54 j55 j56 j57 j58 j59 j60 j61 d
    have hk' : k < i := by simp at hk; omega
    have hk3 : (k : Int) < (i : Int) := by omega
    have hk4 : k < m := by omega
    have hk5 : (k : Int) < (m : Int) := by omega
    have ew : IntKind.i64.wrap ((k : Int) + 1) = ((k + 1 : Nat) : Int) := by rw [IntKind.wrap_i64]; omega
    have eq : IntKind.i64.wrap ((q : Int) + 1) = ((q + 1 : Nat) : Int) := by rw [IntKind.wrap_i64]; omega
    obtain ⟨ad, ha, hcx⟩ := hr 0 u rfl
    have hS := hbS ad ha
    have hr' : ∀ (j : Nat) v, rest[j]? = some v → ∃ ad, b0 = some ad ∧ w.cell? (ad.add (k + 1 + j)) = some (num v) := fun j v hj => by
      obtain ⟨ad', h', hc⟩ := hr (j + 1) v (by simpa using hj)
      exact ⟨ad', h', by rw [show k + 1 + j = k + (j + 1) by omega]; exact hc⟩
    by_cases hup : u = p
    · have ih := ih (k + 1) (q + 1) (by simp at hk; omega) (by omega) hr' (fun j2 j3 j9 j10 j11 j12 j13 j14 j15 j16 j17 j18 j19 j20 j21 j22 j23 j24 j25 j26 j27 j28 j29 j30 j31 j32 j33 j34 j35 j36 j37 j38 j39 j40 j41 j42 j43 j44 j45 j46 j47 j48 j49 j50 j51 j52 j53 j54 j55 j56 j57 j58 j59 j60 j61 d => by
        have := h j2 j3 j9 j10 j11 j12 j13 j14 j15 j16 j17 j18 j19 j20 j21 j22 j23 j24 j25 j26 j27 j28 j29 j30 j31 j32 j33 j34 j35 j36 j37 j38 j39 j40 j41 j42 j43 j44 j45 j46 j47 j48 j49 j50 j51 j52 j53 j54 j55 j56 j57 j58 j59 j60 j61 d
        rw [hup, List.count_cons_self, show q + (rest.count p + 1) = q + 1 + rest.count p by omega] at this
        exact this)
      clear hr h hbS hr'
      subst ha
      subst hup
      simp only [L13b, rest13, post13, in13, L13a, tail13, body13, Try.f13, Option.getD_some, num, Nat.add_zero] at ih hcx ⊢
      refine r_seq ?_
      refine r_seq ?_
      refine r_region ?_; simp only [List.size_toArray, List.length_cons, List.length_nil, Nat.reduceAdd, Nat.zero_add, List.range, List.range.loop]
      iterate 3 (first
      | (refine r_op rfl rfl (by decide) (fun w₁ h₁ K hK => ?_); obtain ⟨dd, hdd⟩ := h₁; subst hdd; (try simp only [at_at']); go_simp
         refine hK _ _ ⟨fun e he => (by have hm := mem_listed he; simp [go_sem] at hm), ?_⟩; clear hK K; try walk_nrm))
      refine r_end ?_
      refine r_cond (t := true) (by simp [Act.eval, hk']) ?_; simp only [if_true, if_false, Bool.false_eq_true, ↓reduceIte]
      repeat (first
      | refine r_end ?_ | refine r_skip ?_ | (refine r_region ?_; simp only [List.size_toArray, List.length_cons, List.length_nil, Nat.reduceAdd, Nat.zero_add, List.range, List.range.loop])
      | (refine r_cond (t := true) rfl ?_; simp only [if_true, if_false, Bool.false_eq_true, ↓reduceIte])
      | refine r_seq ?_ | refine r_block ?_ | refine r_inBlock ?_
      | (refine r_op rfl rfl (by decide) (fun w₁ h₁ K hK => ?_); obtain ⟨dd, hdd⟩ := h₁; subst hdd; (try simp only [at_at']); go_simp
         refine hK _ _ ⟨fun e he => (by have hm := mem_listed he; simp [go_sem, *] at hm; try (subst hm; exact evF_cell _ _ (hS _ (addBlk' _ _)))), ?_⟩; clear hK K; try walk_nrm))
      refine r_inLoop ?_
      exact ih _ _ _ _ _ _ _ _ _ _ _ _ _ _ _ _ _ _ _ _ _ _ _ _ _ _ _ _ _ _ _ _ _ _ _ _ _ _ _ _ _ _ _ _ _ _ _ _ _ _ _ _ _ _ _
    · have ih := ih (k + 1) q (by simp at hk; omega) (by omega) hr' (fun j2 j3 j9 j10 j11 j12 j13 j14 j15 j16 j17 j18 j19 j20 j21 j22 j23 j24 j25 j26 j27 j28 j29 j30 j31 j32 j33 j34 j35 j36 j37 j38 j39 j40 j41 j42 j43 j44 j45 j46 j47 j48 j49 j50 j51 j52 j53 j54 j55 j56 j57 j58 j59 j60 j61 d => by
        have := h j2 j3 j9 j10 j11 j12 j13 j14 j15 j16 j17 j18 j19 j20 j21 j22 j23 j24 j25 j26 j27 j28 j29 j30 j31 j32 j33 j34 j35 j36 j37 j38 j39 j40 j41 j42 j43 j44 j45 j46 j47 j48 j49 j50 j51 j52 j53 j54 j55 j56 j57 j58 j59 j60 j61 d
        rw [List.count_cons_of_ne (by simpa using hup)] at this
        exact this)
      have hup' : (u == p) = false := by simpa using hup
      clear hr h hbS hr'
      subst ha
      simp only [L13b, rest13, post13, in13, L13a, tail13, body13, Try.f13, Option.getD_some, num, Nat.add_zero] at ih hcx ⊢
      refine r_seq ?_
      refine r_seq ?_
      refine r_region ?_; simp only [List.size_toArray, List.length_cons, List.length_nil, Nat.reduceAdd, Nat.zero_add, List.range, List.range.loop]
      iterate 3 (first
      | (refine r_op rfl rfl (by decide) (fun w₁ h₁ K hK => ?_); obtain ⟨dd, hdd⟩ := h₁; subst hdd; (try simp only [at_at']); go_simp
         refine hK _ _ ⟨fun e he => (by have hm := mem_listed he; simp [go_sem] at hm), ?_⟩; clear hK K; try walk_nrm))
      refine r_end ?_
      refine r_cond (t := true) (by simp [Act.eval, hk']) ?_; simp only [if_true, if_false, Bool.false_eq_true, ↓reduceIte]
      repeat (first
      | refine r_end ?_ | refine r_skip ?_ | (refine r_region ?_; simp only [List.size_toArray, List.length_cons, List.length_nil, Nat.reduceAdd, Nat.zero_add, List.range, List.range.loop])
      | (refine r_cond (t := false) (by simp [Act.eval, hup, hup']) ?_; simp only [if_true, if_false, Bool.false_eq_true, ↓reduceIte])
      | refine r_seq ?_ | refine r_block ?_ | refine r_inBlock ?_
      | (refine r_op rfl rfl (by decide) (fun w₁ h₁ K hK => ?_); obtain ⟨dd, hdd⟩ := h₁; subst hdd; (try simp only [at_at']); go_simp
         refine hK _ _ ⟨fun e he => (by have hm := mem_listed he; simp [go_sem, *] at hm; try (subst hm; exact evF_cell _ _ (hS _ (addBlk' _ _)))), ?_⟩; clear hK K; try walk_nrm))
      refine r_inLoop ?_
      exact ih _ _ _ _ _ _ _ _ _ _ _ _ _ _ _ _ _ _ _ _ _ _ _ _ _ _ _ _ _ _ _ _ _ _ _ _ _ _ _ _ _ _ _ _ _ _ _ _ _ _ _ _ _ _ _
end


/-- Rows of numbers, as they are handed in. -/
structure PartsAt (S : Loc → Prop) (w : World) (a0 : Option Addr) (ps : List (List Int)) (hd : Nat → Value) : Prop where
  cell : ∀ j, j < ps.length → ∃ ad, a0 = some ad ∧ w.cell? (ad.add j) = some (hd j)
  clear : ∀ ad, a0 = some ad → ∀ x : Addr, x.block = ad.block → ¬ S (.cell x)
  row : ∀ j xs, ps[j]? = some xs → IntsAt S w (hd j) xs
theorem PartsAt.none {S : Loc → Prop} {w w' : World} {a0 : Option Addr} {ps : List (List Int)} {hd : Nat → Value} (h : PartsAt S w a0 ps hd) (hg : w.grownBy w' none) : PartsAt S w' a0 ps hd :=
  ⟨fun j hj => by obtain ⟨ad, e, hc⟩ := h.cell j hj; exact ⟨ad, e, hg.cell hc (by simp)⟩, h.clear, fun j xs hj => (h.row j xs hj).kept hg fun k _ e => by cases e⟩

/-- What the document's Merge takes at turn number i. -/
def stepR (ps : List (List Int)) (ts : List Int) (i : Nat) : Option Int :=
  match ts[i]? with
  | some p => if 0 ≤ p ∧ p < ps.length then (ps.getD p.toNat [])[(ts.take i).count p]? else none
  | none => none
def mergeR (ps : List (List Int)) (ts : List Int) : List Int := if 64 < ps.length then [] else (List.range ts.length).filterMap (stepR ps ts)
theorem steps_succ (ps : List (List Int)) (ts : List Int) (i : Nat) : (List.range (i + 1)).filterMap (stepR ps ts) = (List.range i).filterMap (stepR ps ts) ++ (stepR ps ts i).toList := by
  rw [List.range_succ, List.filterMap_append]
  cases h : stepR ps ts i <;> simp [h]
theorem steps_length (ps : List (List Int)) (ts : List Int) (i : Nat) : ((List.range i).filterMap (stepR ps ts)).length ≤ i := by
  have := List.length_filterMap_le (stepR ps ts) (List.range i)
  simpa using this

section
variable {S : Loc → Prop} {cs : List Frame} {X : (Loc → Prop) → Goroutine → World → Prop} {a0 b0 : Option Addr} {ca cb n m : Nat}
set_option maxRecDepth 100000 in
set_option maxHeartbeats 4000000 in
/-- A turn that takes nothing, for its number names no part. -/
theorem ref_skip {w : World} {i : Nat} {p : Int} {out : Value} (hi : i < m) (hmax : m ≤ 4611686018427387904) (hb : ∃ ad, b0 = some ad ∧ w.cell? (ad.add i) = some (num p)) (hbS : ∀ ad, b0 = some ad → ∀ x : Addr, x.block = ad.block → ¬ S (.cell x)) (hp : p < 0 ∨ (n : Int) ≤ p)
    (h : ∀ j2 j3 j7 j8 j9 j10 j11 j12 j13 j14 j15 j16 j17 j18 j19 j20 j21 j22 j23 j24 j25 j26 j27 j28 j29 j30 j31 j32 j33 j34 j35 j36 j37 j38 j39 j40 j41 j42 j43 j44 j45 j46 j47 j48 j49 j50 j51 j52 j53 j54 j55 j56 j57 j58 j59 j60 j61 d, Reach Try.prog S (G ((base 13).at ⟨#[.slice a0 n ca, .slice b0 m cb, j2, j3, .slice none 0 0, out, num ((i + 1 : Nat) : Int), j7, j8, j9, j10, j11, j12, j13, j14, j15, j16, j17, j18, j19, j20, j21, j22, j23, j24, j25, j26, j27, j28, j29, j30, j31, j32, j33, j34, j35, j36, j37, j38, j39, j40, j41, j42, j43, j44, j45, j46, j47, j48, j49, j50, j51, j52, j53, j54, j55, j56, j57, j58, j59, j60, j61], []⟩ [.code L13a, .inLoop L13a, .inBlock 0, .code (tail13 4)]) cs) (w.at d) X) :
    ∀ (j2 j3 j7 j8 j9 j10 j11 j12 j13 j14 j15 j16 j17 j18 j19 j20 j21 j22 j23 j24 j25 j26 j27 j28 j29 j30 j31 j32 j33 j34 j35 j36 j37 j38 j39 j40 j41 j42 j43 j44 j45 j46 j47 j48 j49 j50 j51 j52 j53 j54 j55 j56 j57 j58 j59 j60 j61 : Value) (d : Nat), Reach Try.prog S (G ((base 13).at ⟨#[.slice a0 n ca, .slice b0 m cb, j2, j3, .slice none 0 0, out, num i, j7, j8, j9, j10, j11, j12, j13, j14, j15, j16, j17, j18, j19, j20, j21, j22, j23, j24, j25, j26, j27, j28, j29, j30, j31, j32, j33, j34, j35, j36, j37, j38, j39, j40, j41, j42, j43, j44, j45, j46, j47, j48, j49, j50, j51, j52, j53, j54, j55, j56, j57, j58, j59, j60, j61], []⟩ [.code L13a, .inLoop L13a, .inBlock 0, .code (tail13 4)]) cs) (w.at d) X := by
  intro j2 j3 j7 j8 j9 j10 j11 j12 j13 j14 j15 j16 j17 j18 j19 j20 j21 j22 j23 j24 j25 j26 j27 j28 j29 j30 j31 j32 j33 j34 j35 j36 j37 j38 j39 j40 j41 j42 j43 j44 j45 j46 j47 j48 j49 j50 j51 j52 j53 j54 j55 j56 j57 j58 j59 j60 j61 d
  have hi' : (i : Int) < (m : Int) := by omega
  have ew : IntKind.i64.wrap ((i : Int) + 1) = ((i + 1 : Nat) : Int) := by rw [IntKind.wrap_i64]; omega
  obtain ⟨ad, ha, hcx⟩ := hb
  have hS := hbS ad ha
  clear hbS
  subst ha
  simp only [L13b, rest13, post13, in13, L13a, tail13, body13, Try.f13, Option.getD_some, num] at h hcx ⊢
  by_cases hneg : p < 0
  · have hd : decide (p < 0) = true := by simpa using hneg
    refine r_seq ?_
    refine r_seq ?_
    refine r_region ?_; simp only [List.size_toArray, List.length_cons, List.length_nil, Nat.reduceAdd, Nat.zero_add, List.range, List.range.loop]
    iterate 4 (first
      | (refine r_op rfl rfl (by decide) (fun w₁ h₁ K hK => ?_); obtain ⟨dd, hdd⟩ := h₁; subst hdd; (try simp only [at_at']); go_simp
         refine hK _ _ ⟨fun e he => (by have hm := mem_listed he; simp [go_sem] at hm), ?_⟩; clear hK K; try walk_nrm))
    refine r_end ?_
    refine r_cond (t := true) (by simp [Act.eval, hi']) ?_; simp only [if_true, if_false, Bool.false_eq_true, ↓reduceIte]
    repeat (first
      | refine r_end ?_ | refine r_skip ?_ | (refine r_region ?_; simp only [List.size_toArray, List.length_cons, List.length_nil, Nat.reduceAdd, Nat.zero_add, List.range, List.range.loop])
      | (refine r_cond (t := true) rfl ?_; simp only [if_true, if_false, Bool.false_eq_true, ↓reduceIte]; refine r_exit rfl ?_)
      | refine r_seq ?_ | refine r_block ?_ | refine r_inBlock ?_
      | refine r_unwanted rfl rfl ?_
      | (refine r_op rfl rfl (by decide) (fun w₁ h₁ K hK => ?_); obtain ⟨dd, hdd⟩ := h₁; subst hdd; (try simp only [at_at']); go_simp
         refine hK _ _ ⟨fun e he => (by have hm := mem_listed he; simp [go_sem, *] at hm; try (subst hm; exact evF_cell _ _ (hS _ (addBlk' _ _)))), ?_⟩; clear hK K; try walk_nrm))
    refine r_inLoop ?_
    exact h _ _ _ _ _ _ _ _ _ _ _ _ _ _ _ _ _ _ _ _ _ _ _ _ _ _ _ _ _ _ _ _ _ _ _ _ _ _ _ _ _ _ _ _ _ _ _ _ _ _ _ _ _ _ _ _ _ _
  · have hge : (n : Int) ≤ p := by omega
    refine r_seq ?_
    refine r_seq ?_
    refine r_region ?_; simp only [List.size_toArray, List.length_cons, List.length_nil, Nat.reduceAdd, Nat.zero_add, List.range, List.range.loop]
    iterate 4 (first
      | (refine r_op rfl rfl (by decide) (fun w₁ h₁ K hK => ?_); obtain ⟨dd, hdd⟩ := h₁; subst hdd; (try simp only [at_at']); go_simp
         refine hK _ _ ⟨fun e he => (by have hm := mem_listed he; simp [go_sem] at hm), ?_⟩; clear hK K; try walk_nrm))
    refine r_end ?_
    refine r_cond (t := true) (by simp [Act.eval, hi']) ?_; simp only [if_true, if_false, Bool.false_eq_true, ↓reduceIte]
    repeat (first
      | refine r_end ?_ | refine r_skip ?_ | (refine r_region ?_; simp only [List.size_toArray, List.length_cons, List.length_nil, Nat.reduceAdd, Nat.zero_add, List.range, List.range.loop])
      | (refine r_cond (t := true) rfl ?_; simp only [if_true, if_false, Bool.false_eq_true, ↓reduceIte]; refine r_exit rfl ?_)
      | refine r_seq ?_ | refine r_block ?_ | refine r_inBlock ?_
      | refine r_unwanted rfl rfl ?_
      | (refine r_op rfl rfl (by decide) (fun w₁ h₁ K hK => ?_); obtain ⟨dd, hdd⟩ := h₁; subst hdd; (try simp only [at_at']); go_simp
         refine hK _ _ ⟨fun e he => (by have hm := mem_listed he; simp [go_sem, *] at hm; try (subst hm; exact evF_cell _ _ (hS _ (addBlk' _ _)))), ?_⟩; clear hK K; try walk_nrm))
    refine r_inLoop ?_
    exact h _ _ _ _ _ _ _ _ _ _ _ _ _ _ _ _ _ _ _ _ _ _ _ _ _ _ _ _ _ _ _ _ _ _ _ _ _ _ _ _ _ _ _ _ _ _ _ _ _ _ _ _ _ _ _ _ _ _
end


section
variable {S : Loc → Prop} {cs : List Frame} {X : (Loc → Prop) → Goroutine → World → Prop} {a0 b0 : Option Addr} {ca cb n m : Nat}
set_option maxRecDepth 100000 in
set_option maxHeartbeats 4000000 in
/-- Behind the count: the number that is taken, if the part has it. -/
theorem ref_take {W0 w : World} {i pn q : Nat} {out hd : Value} {xs row : List Int} (hi : i < m) (hmax : m * 8 ≤ 140737488355328) (hpn : pn < n) (hpart : ∃ ad, a0 = some ad ∧ w.cell? (ad.add pn) = some hd) (hpS : ∀ ad, a0 = some ad → ∀ x : Addr, x.block = ad.block → ¬ S (.cell x)) (hrow : IntsAt S w hd row)
    (hM : Made W0 out xs w) (hxs : xs.length ≤ i) (hS : ∀ z : Addr, W0.heap.size ≤ z.block → ¬ S (.cell z))
    (h : ∀ out' w' j2 j3 j7 j8 j9 j10 j11 j12 j13 j14 j15 j16 j17 j18 j19 j20 j21 j22 j23 j24 j25 j26 j27 j28 j29 j30 j31 j32 j33 j34 j35 j36 j37 j38 j39 j40 j41 j42 j43 j44 j45 j46 j47 j48 j49 j50 j51 j52 j53 j54 j55 j56 j57 j58 j59 j60 j61 d, Made W0 out' (xs ++ (row[q]?).toList) w' → Reach Try.prog S (G ((base 13).at ⟨#[.slice a0 n ca, .slice b0 m cb, j2, j3, .slice none 0 0, out', num ((i + 1 : Nat) : Int), j7, j8, j9, j10, j11, j12, j13, j14, j15, j16, j17, j18, j19, j20, j21, j22, j23, j24, j25, j26, j27, j28, j29, j30, j31, j32, j33, j34, j35, j36, j37, j38, j39, j40, j41, j42, j43, j44, j45, j46, j47, j48, j49, j50, j51, j52, j53, j54, j55, j56, j57, j58, j59, j60, j61], []⟩ [.code L13a, .inLoop L13a, .inBlock 0, .code (tail13 4)]) cs) (w'.at d) X) :
    ∀ (j2 j3 j9 j10 j11 j12 j13 j14 j15 j16 j17 j18 j19 j20 j21 j22 j23 j24 j25 j26 j27 j28 j29 j30 j31 j32 j33 j34 j35 j36 j37 j38 j39 j40 j41 j42 j43 j44 j45 j46 j47 j48 j49 j50 j51 j52 j53 j54 j55 j56 j57 j58 j59 j60 j61 : Value) (d : Nat), Reach Try.prog S (G ((base 13).at ⟨#[.slice a0 n ca, .slice b0 m cb, j2, j3, .slice none 0 0, out, num i, num (pn : Int), num (q : Int), j9, j10, j11, j12, j13, j14, j15, j16, j17, j18, j19, j20, j21, j22, j23, j24, j25, j26, j27, j28, j29, j30, j31, j32, j33, j34, j35, j36, j37, j38, j39, j40, j41, j42, j43, j44, j45, j46, j47, j48, j49, j50, j51, j52, j53, j54, j55, j56, j57, j58, j59, j60, j61], []⟩ [.code rest13, .inBlock 1, .code post13, .inLoop L13a, .inBlock 0, .code (tail13 4)]) cs) (w.at d) X := by
  intro j2 j3 j9 j10 j11 j12 j13 j14 j15 j16 j17 j18 j19 j20 j21 j22 j23 j24 j25 j26 j27 j28 j29 j30 j31 j32 j33 j34 j35 j36 j37 j38 j39 j40 j41 j42 j43 j44 j45 j46 j47 j48 j49 j50 j51 j52 j53 j54 j55 j56 j57 j58 j59 j60 j61 d
  have hpn' : (pn : Int) < (n : Int) := by omega
  have ew : IntKind.i64.wrap ((i : Int) + 1) = ((i + 1 : Nat) : Int) := by rw [IntKind.wrap_i64]; omega
  obtain ⟨ad, ha, hcp⟩ := hpart
  have hcS := hpS ad ha
  obtain ⟨r0, rc, rfl, hre, hrS, _, hrm⟩ := hrow
  clear hpS
  subst ha
  by_cases hq : q < row.length
  · obtain ⟨rd, hr0, hcx⟩ := hre q _ (List.getElem?_eq_getElem hq)
    have hrS' := hrS rd hr0
    have hq' : (q : Int) < (row.length : Int) := by omega
    have hsz := hM.kept.size
    have hown := hM.own
    rw [List.getElem?_eq_getElem hq, Option.toList_some] at h
    generalize row[q] = x at hcx h
    generalize hlen : row.length = len at hq hq' hcp ⊢
    have hnext := fun w₃ out' ho hg => fun j2 j3 j7 j8 j9 j10 j11 j12 j13 j14 j15 j16 j17 j18 j19 j20 j21 j22 j23 j24 j25 j26 j27 j28 j29 j30 j31 j32 j33 j34 j35 j36 j37 j38 j39 j40 j41 j42 j43 j44 j45 j46 j47 j48 j49 j50 j51 j52 j53 j54 j55 j56 j57 j58 j59 j60 j61 d => h out' w₃ j2 j3 j7 j8 j9 j10 j11 j12 j13 j14 j15 j16 j17 j18 j19 j20 j21 j22 j23 j24 j25 j26 j27 j28 j29 j30 j31 j32 j33 j34 j35 j36 j37 j38 j39 j40 j41 j42 j43 j44 j45 j46 j47 j48 j49 j50 j51 j52 j53 j54 j55 j56 j57 j58 j59 j60 j61 d (hM.next (o := .cells #[num x] 3) (out' := out') (w₃ := w₃) ho hg)
    clear h hM hre hrS hlen hrm
    subst hr0
    simp only [L13b, rest13, post13, in13, L13a, tail13, body13, Try.f13, Option.getD_some, num] at hnext hcx ⊢
    repeat (first
      | refine r_end ?_ | refine r_skip ?_ | (refine r_region ?_; simp only [List.size_toArray, List.length_cons, List.length_nil, Nat.reduceAdd, Nat.zero_add, List.range, List.range.loop])
      | (refine r_cond (t := true) (by simp [Act.eval] <;> omega) ?_; simp only [if_true, if_false, Bool.false_eq_true, ↓reduceIte])
      | refine r_seq ?_ | refine r_block ?_ | refine r_inBlock ?_
      | (refine r_op rfl rfl (by decide) (fun w₁ h₁ K hK => ?_); obtain ⟨dd, hdd⟩ := h₁; subst hdd; (try simp only [at_at']); go_simp
         refine hK _ _ ⟨fun e he => (by have hm := mem_listed he; simp [go_sem, *] at hm; try (subst hm; first | exact evF_cell _ _ (hcS _ (addBlk' _ _)) | exact evF_cell _ _ (hrS' _ (addBlk' _ _)))), ?_⟩; clear hK K; try walk_nrm))
    try simp only [at_at', alloc_at']
    refine r_append (base := W0.heap.size) (n := xs.length) (xs := xs.map num) (w := (w.alloc (.cells #[.int .i64 x] 3)).at _) (.tmp 51) (.tmp 59) (news := [num x]) rfl rfl (by decide) rfl rfl rfl (hown.alloc _) rfl (fun j u hj => ?_) (fun u hu => ?_) (by omega) (by show _ ≤ (w.alloc _).heap.size; simp; omega) (fun z hz => hS z (by rw [hz]; show W0.heap.size ≤ w.heap.size; omega)) hS (fun v' w' hown' hgrow hmost hblk => ?_)
    · match j, hj with
      | 0, hj =>
        cases hj
        show (w.alloc _).cell? _ = _
        simp [go_sem, num, Addr.add]
    · simp at hu
      subst hu
      rfl
    try walk_nrm
    have hR := hnext w' v' hown' ⟨hgrow.os, hgrow.tape, hgrow.output, hgrow.size, hgrow.block⟩
    clear hnext hown' hgrow hblk hmost hown hcx hcp
    repeat (first
      | refine r_end ?_ | refine r_skip ?_ | (refine r_region ?_; simp only [List.size_toArray, List.length_cons, List.length_nil, Nat.reduceAdd, Nat.zero_add, List.range, List.range.loop])
      | refine r_seq ?_ | refine r_block ?_ | refine r_inBlock ?_
      | (refine r_op rfl rfl (by decide) (fun w₁ h₁ K hK => ?_); obtain ⟨dd, hdd⟩ := h₁; subst hdd; (try simp only [at_at', alloc_at']); go_simp
         refine hK _ _ ⟨fun e he => (by have hm := mem_listed he; simp [go_sem] at hm), ?_⟩; clear hK K; try walk_nrm))
    refine r_inLoop ?_
    exact hR _ _ _ _ _ _ _ _ _ _ _ _ _ _ _ _ _ _ _ _ _ _ _ _ _ _ _ _ _ _ _ _ _ _ _ _ _ _ _ _ _ _ _ _ _ _ _ _ _ _ _ _ _ _ _ _ _ _
  · have hno : row[q]? = none := List.getElem?_eq_none (by omega)
    rw [hno, Option.toList_none, List.append_nil] at h
    have h := fun j2 j3 j7 j8 j9 j10 j11 j12 j13 j14 j15 j16 j17 j18 j19 j20 j21 j22 j23 j24 j25 j26 j27 j28 j29 j30 j31 j32 j33 j34 j35 j36 j37 j38 j39 j40 j41 j42 j43 j44 j45 j46 j47 j48 j49 j50 j51 j52 j53 j54 j55 j56 j57 j58 j59 j60 j61 d => h out w j2 j3 j7 j8 j9 j10 j11 j12 j13 j14 j15 j16 j17 j18 j19 j20 j21 j22 j23 j24 j25 j26 j27 j28 j29 j30 j31 j32 j33 j34 j35 j36 j37 j38 j39 j40 j41 j42 j43 j44 j45 j46 j47 j48 j49 j50 j51 j52 j53 j54 j55 j56 j57 j58 j59 j60 j61 d hM
    generalize hlen : row.length = len at hq hcp ⊢
    clear hM hre hrS hlen hrm
    simp only [L13b, rest13, post13, in13, L13a, tail13, body13, Try.f13, Option.getD_some, num] at h ⊢
    repeat (first
      | refine r_end ?_ | refine r_skip ?_ | (refine r_region ?_; simp only [List.size_toArray, List.length_cons, List.length_nil, Nat.reduceAdd, Nat.zero_add, List.range, List.range.loop])
      | (refine r_cond (t := false) (by simp [Act.eval] <;> omega) ?_; simp only [if_true, if_false, Bool.false_eq_true, ↓reduceIte])
      | refine r_seq ?_ | refine r_block ?_ | refine r_inBlock ?_
      | (refine r_op rfl rfl (by decide) (fun w₁ h₁ K hK => ?_); obtain ⟨dd, hdd⟩ := h₁; subst hdd; (try simp only [at_at']); go_simp
         refine hK _ _ ⟨fun e he => (by have hm := mem_listed he; simp [go_sem, *] at hm; try (subst hm; exact evF_cell _ _ (hcS _ (addBlk' _ _)))), ?_⟩; clear hK K; try walk_nrm))
    refine r_inLoop ?_
    exact h _ _ _ _ _ _ _ _ _ _ _ _ _ _ _ _ _ _ _ _ _ _ _ _ _ _ _ _ _ _ _ _ _ _ _ _ _ _ _ _ _ _ _ _ _ _ _ _ _ _ _ _ _ _ _ _ _ _
end

end Go.Proofs.Ytdpagejckahkkaa.Net
