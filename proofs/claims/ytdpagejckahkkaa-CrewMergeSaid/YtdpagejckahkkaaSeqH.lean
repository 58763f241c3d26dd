/- The document's own Merge beside goroutines that only leave: the whole call. -/
import Derived.Test.YtdpagejckahkkaaSeqG
set_option linter.unusedSimpArgs false
set_option linter.unusedVariables false
namespace Go.Proofs.Ytdpagejckahkkaa.Net
open Go Go.Conc Go.RowKit

section
variable {S : Loc → Prop} {cs : List Frame} {X : (Loc → Prop) → Goroutine → World → Prop} {a0 b0 : Option Addr} {ca cb n m : Nat}


set_option maxRecDepth 100000 in
set_option maxHeartbeats 4000000 in
theorem ref_enter {w : World} {i pn : Nat} {out : Value} (hi : i < m) (hpn : pn < n) (hb : ∃ ad, b0 = some ad ∧ w.cell? (ad.add i) = some (num (pn : Int))) (hbS : ∀ ad, b0 = some ad → ∀ x : Addr, x.block = ad.block → ¬ S (.cell x))
    (h : ∀ j2 j3 j10 j11 j12 j13 j14 j15 j16 j17 j18 j19 j20 j21 j22 j23 j24 j25 j26 j27 j28 j29 j30 j31 j32 j33 j34 j35 j36 j37 j38 j39 j40 j41 j42 j43 j44 j45 j46 j47 j48 j49 j50 j51 j52 j53 j54 j55 j56 j57 j58 j59 j60 j61 d, Reach Try.prog S (G ((base 13).at ⟨#[.slice a0 n ca, .slice b0 m cb, j2, j3, .slice none 0 0, out, num i, num (pn : Int), num ((0 : Nat) : Int), num ((0 : Nat) : Int), j10, j11, j12, j13, j14, j15, j16, j17, j18, j19, j20, j21, j22, j23, j24, j25, j26, j27, j28, j29, j30, j31, j32, j33, j34, j35, j36, j37, j38, j39, j40, j41, j42, j43, j44, j45, j46, j47, j48, j49, j50, j51, j52, j53, j54, j55, j56, j57, j58, j59, j60, j61], []⟩ [.code L13b, .inLoop L13b, .inBlock 2, .code rest13, .inBlock 1, .code post13, .inLoop L13a, .inBlock 0, .code (tail13 4)]) cs) (w.at d) X) :
    ∀ (j2 j3 j7 j8 j9 j10 j11 j12 j13 j14 j15 j16 j17 j18 j19 j20 j21 j22 j23 j24 j25 j26 j27 j28 j29 j30 j31 j32 j33 j34 j35 j36 j37 j38 j39 j40 j41 j42 j43 j44 j45 j46 j47 j48 j49 j50 j51 j52 j53 j54 j55 j56 j57 j58 j59 j60 j61 : Value) (d : Nat), Reach Try.prog S (G ((base 13).at ⟨#[.slice a0 n ca, .slice b0 m cb, j2, j3, .slice none 0 0, out, num i, j7, j8, j9, j10, j11, j12, j13, j14, j15, j16, j17, j18, j19, j20, j21, j22, j23, j24, j25, j26, j27, j28, j29, j30, j31, j32, j33, j34, j35, j36, j37, j38, j39, j40, j41, j42, j43, j44, j45, j46, j47, j48, j49, j50, j51, j52, j53, j54, j55, j56, j57, j58, j59, j60, j61], []⟩ [.code L13a, .inLoop L13a, .inBlock 0, .code (tail13 4)]) cs) (w.at d) X := by
  intro j2 j3 j7 j8 j9 j10 j11 j12 j13 j14 j15 j16 j17 j18 j19 j20 j21 j22 j23 j24 j25 j26 j27 j28 j29 j30 j31 j32 j33 j34 j35 j36 j37 j38 j39 j40 j41 j42 j43 j44 j45 j46 j47 j48 j49 j50 j51 j52 j53 j54 j55 j56 j57 j58 j59 j60 j61 d
  have hi' : (i : Int) < (m : Int) := by omega
  have hpn' : (pn : Int) < (n : Int) := by omega
  have hneg : ¬ ((pn : Int) < 0) := by omega
  have hge : ¬ ((n : Int) ≤ (pn : Int)) := by omega
  have hge' : ¬ (n ≤ pn) := by omega
  obtain ⟨ad, ha, hcx⟩ := hb
  have hS := hbS ad ha
  clear hbS
  subst ha
  simp only [L13b, rest13, post13, in13, L13a, tail13, body13, Try.f13, Option.getD_some, num] at h hcx ⊢
  refine r_seq ?_
  refine r_seq ?_
  refine r_region ?_; simp only [List.size_toArray, List.length_cons, List.length_nil, Nat.reduceAdd, Nat.zero_add, List.range, List.range.loop]
  iterate 4 (first
    | (refine r_op rfl rfl (by decide) (fun w₁ h₁ K hK => ?_); obtain ⟨dd, hdd⟩ := h₁; subst hdd; (try simp only [at_at']); go_simp
       refine hK _ _ ⟨fun e he => (by have hm := mem_listed he; simp [go_sem] at hm), ?_⟩; clear hK K; try walk_nrm))
  refine r_end ?_
  refine r_cond (t := true) (by simp [Act.eval, hi']) ?_; simp only [if_true, if_false, Bool.false_eq_true, ↓reduceIte]
  repeat (first
      | refine r_end ?_ | refine r_skip ?_ | (refine r_region ?_; simp only [List.size_toArray, List.length_cons, List.length_nil, Nat.reduceAdd, Nat.zero_add, List.range, List.range.loop])
      | (refine r_cond (t := false) (by simp [Act.eval, hneg, hge, hge']) ?_; simp only [if_true, if_false, Bool.false_eq_true, ↓reduceIte])
      | refine r_seq ?_ | refine r_block ?_
      | (refine r_op rfl rfl (by decide) (fun w₁ h₁ K hK => ?_); obtain ⟨dd, hdd⟩ := h₁; subst hdd; (try simp only [at_at']); go_simp
         refine hK _ _ ⟨fun e he => (by have hm := mem_listed he; simp [go_sem, *] at hm; try (subst hm; exact evF_cell _ _ (hS _ (addBlk' _ _)))), ?_⟩; clear hK K; try walk_nrm))
  refine r_loop ?_
  exact h _ _ _ _ _ _ _ _ _ _ _ _ _ _ _ _ _ _ _ _ _ _ _ _ _ _ _ _ _ _ _ _ _ _ _ _ _ _ _ _ _ _ _ _ _ _ _ _ _ _ _ _ _ _ _

set_option maxRecDepth 100000 in
set_option maxHeartbeats 4000000 in
theorem ref_turns {W0 : World} {ps : List (List Int)} {ts : List Int} {hd : Nat → Value} (hn : ps.length = n) (hm : ts.length = m) (hmax : m * 8 ≤ 140737488355328) (hP : PartsAt S W0 a0 ps hd) (hb : ∀ (j : Nat) u, ts[j]? = some u → ∃ ad, b0 = some ad ∧ W0.cell? (ad.add j) = some (num u))
    (hbS : ∀ ad, b0 = some ad → ∀ x : Addr, x.block = ad.block → ¬ S (.cell x)) (hS : ∀ z : Addr, W0.heap.size ≤ z.block → ¬ S (.cell z))
    (h : ∀ w' out' T todo d, Made W0 out' ((List.range m).filterMap (stepR ps ts)) w' → (∀ fn : Func, fn.results = #[.tmp 4] → ResultsC Try.prog fn T out') → Reach Try.prog S (G { (base 13).at ⟨T, []⟩ todo with mode := .returning } cs) (w'.at d) X) :
    ∀ (k i : Nat) (w : World) (out : Value), i + k = m → Made W0 out ((List.range i).filterMap (stepR ps ts)) w → ∀ (j2 j3 j7 j8 j9 j10 j11 j12 j13 j14 j15 j16 j17 j18 j19 j20 j21 j22 j23 j24 j25 j26 j27 j28 j29 j30 j31 j32 j33 j34 j35 j36 j37 j38 j39 j40 j41 j42 j43 j44 j45 j46 j47 j48 j49 j50 j51 j52 j53 j54 j55 j56 j57 j58 j59 j60 j61 : Value) (d : Nat), Reach Try.prog S (G ((base 13).at ⟨#[.slice a0 n ca, .slice b0 m cb, j2, j3, .slice none 0 0, out, num i, j7, j8, j9, j10, j11, j12, j13, j14, j15, j16, j17, j18, j19, j20, j21, j22, j23, j24, j25, j26, j27, j28, j29, j30, j31, j32, j33, j34, j35, j36, j37, j38, j39, j40, j41, j42, j43, j44, j45, j46, j47, j48, j49, j50, j51, j52, j53, j54, j55, j56, j57, j58, j59, j60, j61], []⟩ [.code L13a, .inLoop L13a, .inBlock 0, .code (tail13 4)]) cs) (w.at d) X := by
  intro k
  induction k with
  | zero =>
    intro i w out hi hM j2 j3 j7 j8 j9 j10 j11 j12 j13 j14 j15 j16 j17 j18 j19 j20 j21 j22 j23 j24 j25 j26 j27 j28 j29 j30 j31 j32 j33 j34 j35 j36 j37 j38 j39 j40 j41 j42 j43 j44 j45 j46 j47 j48 j49 j50 j51 j52 j53 j54 j55 j56 j57 j58 j59 j60 j61 d
    obtain rfl : i = m := by omega
    have h := fun T todo d => h w out T todo d hM
    clear hM hP hb hbS
    simp only [L13b, rest13, post13, in13, L13a, tail13, body13, Try.f13, Option.getD_some, num] at h ⊢
    repeat (first
      | refine r_end ?_ | refine r_skip ?_ | (refine r_region ?_; simp only [List.size_toArray, List.length_cons, List.length_nil, Nat.reduceAdd, Nat.zero_add, List.range, List.range.loop])
      | (refine r_cond (t := false) (by simp [Act.eval]) ?_; simp only [if_true, if_false, Bool.false_eq_true, ↓reduceIte]; refine r_exit rfl ?_)
      | refine r_seq ?_
      | (refine r_op rfl rfl (by decide) (fun w₁ h₁ K hK => ?_); obtain ⟨dd, hdd⟩ := h₁; subst hdd; (try simp only [at_at']); go_simp
         refine hK _ _ ⟨fun e he => (by have hm := mem_listed he; simp [go_sem] at hm), ?_⟩; clear hK K; try walk_nrm))
    refine r_ret ?_
    exact h _ _ _ fun fn hf => resultsC_tmp hf _
  | succ k ih =>
    intro i w out hi hM j2 j3 j7 j8 j9 j10 j11 j12 j13 j14 j15 j16 j17 j18 j19 j20 j21 j22 j23 j24 j25 j26 j27 j28 j29 j30 j31 j32 j33 j34 j35 j36 j37 j38 j39 j40 j41 j42 j43 j44 j45 j46 j47 j48 j49 j50 j51 j52 j53 j54 j55 j56 j57 j58 j59 j60 j61 d
    have him : i < m := by omega
    have hit : i < ts.length := by omega
    have hget : ts[i]? = some ts[i] := List.getElem?_eq_getElem hit
    have hbw : ∀ (j : Nat) u, ts[j]? = some u → ∃ ad, b0 = some ad ∧ w.cell? (ad.add j) = some (num u) := fun j u hj => by
      obtain ⟨ad, e, hc⟩ := hb j u hj
      exact ⟨ad, e, hM.kept.cell hc (by simp)⟩
    have hPw := hP.none hM.kept
    have hnext := fun w' out' hM' => ih (i + 1) w' out' (by omega) hM'
    rw [steps_succ] at hnext
    by_cases hp : 0 ≤ ts[i] ∧ ts[i] < n
    · obtain ⟨pn, hpn⟩ := Int.eq_ofNat_of_zero_le hp.1
      have hpn' : pn < n := by omega
      have hrow : ps[pn]? = some ps[pn] := List.getElem?_eq_getElem (by omega)
      have hstep : stepR ps ts i = ps[pn][(ts.take i).count (pn : Int)]? := by
        unfold stepR
        rw [hget]
        simp only [hpn]
        rw [if_pos ⟨by omega, by omega⟩]
        simp [List.getD, hrow]
      rw [hstep] at hnext
      rw [hpn] at hget
      refine ref_enter him hpn' (hbw i _ hget) hbS (fun j2 j3 j10 j11 j12 j13 j14 j15 j16 j17 j18 j19 j20 j21 j22 j23 j24 j25 j26 j27 j28 j29 j30 j31 j32 j33 j34 j35 j36 j37 j38 j39 j40 j41 j42 j43 j44 j45 j46 j47 j48 j49 j50 j51 j52 j53 j54 j55 j56 j57 j58 j59 j60 j61 d => ?_) j2 j3 j7 j8 j9 j10 j11 j12 j13 j14 j15 j16 j17 j18 j19 j20 j21 j22 j23 j24 j25 j26 j27 j28 j29 j30 j31 j32 j33 j34 j35 j36 j37 j38 j39 j40 j41 j42 j43 j44 j45 j46 j47 j48 j49 j50 j51 j52 j53 j54 j55 j56 j57 j58 j59 j60 j61 d
      refine ref_count him (by omega) hbS (ts.take i) 0 0 (by simp; omega) (Nat.le_refl _) (fun j u hj => by
        rw [List.getElem?_take] at hj
        split at hj
        · rw [Nat.zero_add]; exact hbw j u hj
        · cases hj) (fun j2 j3 j9 j10 j11 j12 j13 j14 j15 j16 j17 j18 j19 j20 j21 j22 j23 j24 j25 j26 j27 j28 j29 j30 j31 j32 j33 j34 j35 j36 j37 j38 j39 j40 j41 j42 j43 j44 j45 j46 j47 j48 j49 j50 j51 j52 j53 j54 j55 j56 j57 j58 j59 j60 j61 d => ?_) _ _ _ _ _ _ _ _ _ _ _ _ _ _ _ _ _ _ _ _ _ _ _ _ _ _ _ _ _ _ _ _ _ _ _ _ _ _ _ _ _ _ _ _ _ _ _ _ _ _ _ _ _ _ d
      rw [Nat.zero_add]
      exact ref_take him hmax hpn' (hPw.cell pn (by omega)) hPw.clear (hPw.row pn _ hrow) hM (steps_length ps ts i) hS (fun out' w' j2 j3 j7 j8 j9 j10 j11 j12 j13 j14 j15 j16 j17 j18 j19 j20 j21 j22 j23 j24 j25 j26 j27 j28 j29 j30 j31 j32 j33 j34 j35 j36 j37 j38 j39 j40 j41 j42 j43 j44 j45 j46 j47 j48 j49 j50 j51 j52 j53 j54 j55 j56 j57 j58 j59 j60 j61 d hM' => hnext w' out' hM' j2 j3 j7 j8 j9 j10 j11 j12 j13 j14 j15 j16 j17 j18 j19 j20 j21 j22 j23 j24 j25 j26 j27 j28 j29 j30 j31 j32 j33 j34 j35 j36 j37 j38 j39 j40 j41 j42 j43 j44 j45 j46 j47 j48 j49 j50 j51 j52 j53 j54 j55 j56 j57 j58 j59 j60 j61 d) _ _ _ _ _ _ _ _ _ _ _ _ _ _ _ _ _ _ _ _ _ _ _ _ _ _ _ _ _ _ _ _ _ _ _ _ _ _ _ _ _ _ _ _ _ _ _ _ _ _ _ _ _ _ _ d
    · have hstep : stepR ps ts i = none := by
        unfold stepR
        rw [hget]
        simp only []
        rw [if_neg (by omega)]
      rw [hstep, Option.toList_none, List.append_nil] at hnext
      exact ref_skip him (by omega) (hbw i _ hget) hbS (by omega) (fun j2 j3 j7 j8 j9 j10 j11 j12 j13 j14 j15 j16 j17 j18 j19 j20 j21 j22 j23 j24 j25 j26 j27 j28 j29 j30 j31 j32 j33 j34 j35 j36 j37 j38 j39 j40 j41 j42 j43 j44 j45 j46 j47 j48 j49 j50 j51 j52 j53 j54 j55 j56 j57 j58 j59 j60 j61 d => hnext w out hM j2 j3 j7 j8 j9 j10 j11 j12 j13 j14 j15 j16 j17 j18 j19 j20 j21 j22 j23 j24 j25 j26 j27 j28 j29 j30 j31 j32 j33 j34 j35 j36 j37 j38 j39 j40 j41 j42 j43 j44 j45 j46 j47 j48 j49 j50 j51 j52 j53 j54 j55 j56 j57 j58 j59 j60 j61 d) j2 j3 j7 j8 j9 j10 j11 j12 j13 j14 j15 j16 j17 j18 j19 j20 j21 j22 j23 j24 j25 j26 j27 j28 j29 j30 j31 j32 j33 j34 j35 j36 j37 j38 j39 j40 j41 j42 j43 j44 j45 j46 j47 j48 j49 j50 j51 j52 j53 j54 j55 j56 j57 j58 j59 j60 j61 d
end


set_option maxRecDepth 100000 in
set_option maxHeartbeats 4000000 in
/-- The document's Merge. -/
theorem refMerge_calls {S : Loc → Prop} {w : World} {a0 : Option Addr} {ca : Nat} {ps : List (List Int)} {hd : Nat → Value} {vb : Value} {ts : List Int} (hP : PartsAt S w a0 ps hd) (ht : IntsAt S w vb ts) (hmax : ts.length * 8 ≤ 140737488355328) (hS : ∀ z : Addr, w.heap.size ≤ z.block → ¬ S (.cell z)) :
    CallsR Try.prog S 13 #[.slice a0 ps.length ca, vb] w (RefPost S w (mergeR ps ts)) := by
  obtain ⟨b0, cb, rfl, hy, hyS, _, hym⟩ := ht
  refine CallsR.enter Try.func13 (by rfl) rfl fun cs => ?_
  have fin : ∀ w' out' T todo d, Made w out' (mergeR ps ts) w' → (∀ fn : Func, fn.results = #[.tmp 4] → ResultsC Try.prog fn T out') → Reach Try.prog S (G { (base 13).at ⟨T, []⟩ todo with mode := .returning } cs) (w'.at d)
      fun S' g w' => ∃ a' todo v, g = G { (base 13).at a' todo with mode := .returning } cs ∧ a'.defers = [] ∧ ResultsC Try.prog Try.f13 a'.tmps v ∧ RefPost S w (mergeR ps ts) S' v w' :=
    fun w' out' T todo d hM hR => .here ⟨⟨T, []⟩, todo, _, rfl, rfl, hR _ rfl, rfl, hM.own, grown_at hM.kept d⟩
  have none0 : Made w (.slice none 0 0) [] w := ⟨World.ownsRow_nil _ _ _ _, grown_refl w none⟩
  generalize hn : ps.length = n
  generalize hm : ts.length = m at hmax ⊢
  by_cases h64 : 64 < n
  · have e : mergeR ps ts = [] := if_pos (by omega)
    rw [e] at fin
    have fin := fun T todo d => fin w _ T todo d none0
    clear hP hy hyS none0 hn hm hym
    simp only [body13, Try.f13, Option.getD_some, Nat.reduceSub, Array.replicate_succ, Array.replicate_zero, List.push_toArray, List.append_toArray, List.nil_append, List.cons_append, List.size_toArray, List.length_cons, List.length_nil, Nat.reduceAdd, Nat.zero_add, e] at fin ⊢
    repeat (first
      | refine r_end ?_ | refine r_skip ?_ | (refine r_region ?_; simp only [List.size_toArray, List.length_cons, List.length_nil, Nat.reduceAdd, Nat.zero_add, List.range, List.range.loop])
      | (refine r_cond (t := true) (by simp [Act.eval] <;> omega) ?_; simp only [if_true, if_false, Bool.false_eq_true, ↓reduceIte])
      | refine r_seq ?_
      | (refine r_op rfl rfl (by decide) (fun w₁ h₁ K hK => ?_); obtain ⟨dd, hdd⟩ := h₁; subst hdd; (try simp only [at_at']); go_simp
         refine hK _ _ ⟨fun e he => (by have hm := mem_listed he; simp [go_sem] at hm), ?_⟩; clear hK K; try walk_nrm))
    refine r_ret ?_
    exact fin _ _ _ fun fn hf => resultsC_tmp hf _
  · have e : mergeR ps ts = (List.range m).filterMap (stepR ps ts) := by rw [← hm]; exact if_neg (by omega)
    rw [e] at fin
    have l := ref_turns (S := S) (cs := cs) (a0 := a0) (b0 := b0) (ca := ca) (cb := cb) (n := n) (m := m) (W0 := w) hn hm hmax hP hy hyS hS fin m 0 w (.slice none 0 0) (by omega) none0
    clear fin none0 hP hy hyS hn hm hym
    simp only [L13b, rest13, post13, in13, L13a, tail13, body13, Try.f13, Option.getD_some, num, Nat.reduceSub, Array.replicate_succ, Array.replicate_zero, List.push_toArray, List.append_toArray, List.nil_append, List.cons_append, List.size_toArray, List.length_cons, List.length_nil, Nat.reduceAdd, Nat.zero_add, e] at l ⊢
    repeat (first
      | refine r_end ?_ | refine r_skip ?_ | (refine r_region ?_; simp only [List.size_toArray, List.length_cons, List.length_nil, Nat.reduceAdd, Nat.zero_add, List.range, List.range.loop])
      | (refine r_cond (t := false) (by simp [Act.eval] <;> omega) ?_; simp only [if_true, if_false, Bool.false_eq_true, ↓reduceIte])
      | refine r_seq ?_ | refine r_block ?_
      | (refine r_op rfl rfl (by decide) (fun w₁ h₁ K hK => ?_); obtain ⟨dd, hdd⟩ := h₁; subst hdd; (try simp only [at_at']); go_simp
         refine hK _ _ ⟨fun e he => (by have hm := mem_listed he; simp [go_sem] at hm), ?_⟩; clear hK K; try walk_nrm))
    refine r_loop ?_
    exact l _ _ _ _ _ _ _ _ _ _ _ _ _ _ _ _ _ _ _ _ _ _ _ _ _ _ _ _ _ _ _ _ _ _ _ _ _ _ _ _ _ _ _ _ _ _ _ _ _ _ _ _ _ _ _ _ _ _
#print axioms refMerge_calls

end Go.Proofs.Ytdpagejckahkkaa.Net
