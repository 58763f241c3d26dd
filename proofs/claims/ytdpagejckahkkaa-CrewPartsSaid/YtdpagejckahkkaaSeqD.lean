/- The laws' own helpers beside goroutines that only leave: a list is written full and gone on with. -/
import Derived.Test.YtdpagejckahkkaaSeqC
set_option linter.unusedSimpArgs false
set_option linter.unusedVariables false
namespace Go.Proofs.Ytdpagejckahkkaa.Net
open Go Go.Conc Go.RowKit

noncomputable def body21 : Code := Try.f21.body.getD .skip
noncomputable def L21a : Code := match body21 with | .seq _ (.seq (.seq _ (.block _ (.loop c))) _) => c | _ => .skip
noncomputable def tail21 : Code := match body21 with | .seq _ (.seq _ c) => c | _ => .skip
noncomputable def L21b : Code := match tail21 with | .seq (.seq _ (.block _ (.loop c))) _ => c | _ => .skip
noncomputable def last21 : Code := match tail21 with | .seq _ c => c | _ => .skip

theorem set_next (i : Nat) (u r : Value) (rest : List Value) : (List.replicate i u ++ r :: rest).set i u = List.replicate (i + 1) u ++ rest := by
  induction i with
  | zero => rfl
  | succ i ih => simp [List.replicate_succ, ih]
section
variable {S : Loc → Prop} {cs : List Frame} {X : (Loc → Prop) → Goroutine → World → Prop}


set_option maxRecDepth 100000 in
set_option maxHeartbeats 2000000 in
theorem spoil_loop1 {a0 : Option Addr} {ca n base : Nat} {m : Int} (hmax : n ≤ 4611686018427387904) (hS : ∀ z : Addr, Value.ownBlock (.slice a0 n ca) = some z.block → ¬ S (.cell z)) :
    ∀ (k i : Nat) (w : World) (rest : List Value), i + k = n → rest.length = k → w.ownsRow base 3 1 (.slice a0 n ca) n (List.replicate i (num m) ++ rest) →
    (h : ∀ w' j2 j3 j5 j6 j7 j8 j9 j10 j11 j12 j13 j14 j15 j16 j17 j18 j19 j20 j21 j22 j23 j24 j25 d, w'.ownsRow base 3 1 (.slice a0 n ca) n (List.replicate n (num m)) → w.grownBy w' (Value.ownBlock (.slice a0 n ca)) → w'.heap.size = w.heap.size → Reach Try.prog S (G ((Go.Conc.base 21).at ⟨#[.slice a0 n ca, num m, j2, j3, .slice none 0 0, j5, j6, j7, j8, j9, j10, j11, j12, j13, j14, j15, j16, j17, j18, j19, j20, j21, j22, j23, j24, j25], []⟩ [.code tail21]) cs) (w'.at d) X) →
    ∀ (j2 j3 j6 j7 j8 j9 j10 j11 j12 j13 j14 j15 j16 j17 j18 j19 j20 j21 j22 j23 j24 j25 : Value) (d : Nat), Reach Try.prog S (G ((Go.Conc.base 21).at ⟨#[.slice a0 n ca, num m, j2, j3, .slice none 0 0, num i, j6, j7, j8, j9, j10, j11, j12, j13, j14, j15, j16, j17, j18, j19, j20, j21, j22, j23, j24, j25], []⟩ [.code L21a, .inLoop L21a, .inBlock 0, .code tail21]) cs) (w.at d) X := by
  intro k
  induction k with
  | zero =>
    intro i w rest hi hl hown h j2 j3 j6 j7 j8 j9 j10 j11 j12 j13 j14 j15 j16 j17 j18 j19 j20 j21 j22 j23 j24 j25 d
    have hi' : ¬ (i < n) := by omega
    have e : List.replicate i (num m) ++ rest = List.replicate n (num m) := by
      rw [List.eq_nil_of_length_eq_zero hl, List.append_nil, show i = n by omega]
    rw [e] at hown
    have h := fun j2 j3 j5 j6 j7 j8 j9 j10 j11 j12 j13 j14 j15 j16 j17 j18 j19 j20 j21 j22 j23 j24 j25 d => h w j2 j3 j5 j6 j7 j8 j9 j10 j11 j12 j13 j14 j15 j16 j17 j18 j19 j20 j21 j22 j23 j24 j25 d hown (grown_refl w _) rfl
    clear hown e
    simp only [L21a, tail21, body21, Try.f21, Option.getD_some, num] at h ⊢
    refine r_seq ?_
    refine r_seq ?_
    refine r_region ?_; simp only [List.size_toArray, List.length_cons, List.length_nil, Nat.reduceAdd, Nat.zero_add, List.range, List.range.loop]
    iterate 4 (first
      | (refine r_op rfl rfl (by decide) (fun w₁ h₁ K hK => ?_); obtain ⟨dd, hdd⟩ := h₁; subst hdd; (try simp only [at_at']); go_simp
         refine hK _ _ ⟨fun e he => (by have hm := mem_listed he; simp [go_sem] at hm), ?_⟩; clear hK K; try walk_nrm))
    refine r_end ?_
    refine r_cond (t := false) (by simp [Act.eval, hi']) ?_; simp only [if_true, if_false, Bool.false_eq_true, ↓reduceIte]
    refine r_exit rfl ?_
    exact h _ _ _ _ _ _ _ _ _ _ _ _ _ _ _ _ _ _ _ _ _ _ _ _
  | succ k ih =>
    intro i w rest hi hl hown h j2 j3 j6 j7 j8 j9 j10 j11 j12 j13 j14 j15 j16 j17 j18 j19 j20 j21 j22 j23 j24 j25 d
    obtain ⟨r, rest, rfl⟩ : ∃ r rest', rest = r :: rest' := by
      cases rest with
      | nil => simp at hl
      | cons r rest => exact ⟨r, rest, rfl⟩
    have hi' : i < n := by omega
    have hi3 : (i : Int) < (n : Int) := by omega
    have ew : IntKind.i64.wrap ((i : Int) + 1) = ((i + 1 : Nat) : Int) := by rw [IntKind.wrap_i64]; omega
    have hown0 := hown
    rcases hown.2 with ⟨_, e⟩ | ⟨g, cap, cur, e, hb, hg, hnc, hcm, hcs, htake⟩
    · omega
    simp only [Value.slice.injEq, true_and] at e
    obtain ⟨rfl, rfl⟩ := e
    have hcell : w.cell? ⟨g, i, none⟩ = some r := by rw [hown.cellAt i (by omega)]; simp
    have hfro : w.frozen? ⟨g, i, none⟩ = false := hown.frozenAt i
    obtain ⟨hst, hgr⟩ := hown.stored i (num m)
    rw [set_next] at hst
    have hgS : ∀ z : Addr, z.block = g → ¬ S (.cell z) := fun z hz => hS z (by rw [hz]; rfl)
    have ih := ih (i + 1) (w.setCell ⟨g, i, none⟩ (num m)) rest (by omega) (by simpa using hl) hst (fun w' j2 j3 j5 j6 j7 j8 j9 j10 j11 j12 j13 j14 j15 j16 j17 j18 j19 j20 j21 j22 j23 j24 j25 d h1 h2 h3 => h w' j2 j3 j5 j6 j7 j8 j9 j10 j11 j12 j13 j14 j15 j16 j17 j18 j19 j20 j21 j22 j23 j24 j25 d h1 (grown_trans hgr h2) (h3.trans (by simp)))
    clear hst hgr hown hown0 hg htake hcs hnc hcm h
    simp only [L21a, tail21, body21, Try.f21, Option.getD_some, num] at ih ⊢
    repeat (first
      | refine r_end ?_ | refine r_skip ?_ | (refine r_region ?_; simp only [List.size_toArray, List.length_cons, List.length_nil, Nat.reduceAdd, Nat.zero_add, List.range, List.range.loop])
      | (refine r_cond (t := true) (by simp [Act.eval, hi']) ?_; simp only [if_true, if_false, Bool.false_eq_true, ↓reduceIte])
      | refine r_seq ?_ | refine r_block ?_ | refine r_inBlock ?_
      | (refine r_op rfl rfl (by decide) (fun w₁ h₁ K hK => ?_); obtain ⟨dd, hdd⟩ := h₁; subst hdd; (try simp only [at_at', setCell_at']); go_simp
         refine hK _ _ ⟨fun e he => (by have hm := mem_listed he; simp [go_sem, storedEv, *] at hm; try (subst hm; exact evF_cell _ _ (hgS _ rfl))), ?_⟩; clear hK K; try walk_nrm))
    refine r_inLoop ?_
    exact ih _ _ _ _ _ _ _ _ _ _ _ _ _ _ _ _ _ _ _ _ _ _ _
end


/-- Below s0 all is as it was, but for one block. -/
structure KeptBut (s0 : Nat) (row : Option Nat) (w w' : World) : Prop where
  os : w'.os = w.os
  tape : w'.tape = w.tape
  output : w'.output = w.output
  size : w.heap.size ≤ w'.heap.size
  block : ∀ k, k < s0 → some k ≠ row → w'.heap[k]? = w.heap[k]?
theorem KeptBut.trans {s0 : Nat} {row : Option Nat} {a b c : World} (h : KeptBut s0 row a b) (k : KeptBut s0 row b c) : KeptBut s0 row a c :=
  ⟨k.os.trans h.os, k.tape.trans h.tape, k.output.trans h.output, Nat.le_trans h.size k.size, fun i hi hne => (k.block i hi hne).trans (h.block i hi hne)⟩
theorem KeptBut.at {s0 : Nat} {row : Option Nat} {a b : World} (h : KeptBut s0 row a b) (d : Nat) : KeptBut s0 row a (b.at d) := ⟨h.os, h.tape, h.output, h.size, h.block⟩
theorem KeptBut.of {s0 : Nat} {row row' : Option Nat} {a b : World} (h : a.grownBy b row') (hs : s0 ≤ a.heap.size) (hr : ∀ i, i < s0 → some i = row' → some i = row) : KeptBut s0 row a b :=
  ⟨h.os, h.tape, h.output, h.size, fun i hi hne => h.block i (by omega) fun e => hne (hr i hi e)⟩

/-- What holds while a list is gone on with: its old value reads full still. -/
structure Gone (S : Loc → Prop) (W0 : World) (base n : Nat) (m : Int) (v cur : Value) (q : Nat) (w : World) : Prop where
  own : w.ownsRow base 3 1 cur (n + q) (List.replicate (n + q) (num m))
  old : IntsAt S w v (List.replicate n m)
  kept : KeptBut W0.heap.size v.ownBlock W0 w
  blk : cur.ownBlock = v.ownBlock ∨ ∃ g, W0.heap.size ≤ g ∧ cur.ownBlock = some g

theorem ints_prefix {S : Loc → Prop} {base n q : Nat} {m : Int} {v cur : Value} {w : World} (hv : (v = .slice none 0 0 ∧ n = 0) ∨ ∃ g ca, v = .slice (some ⟨g, 0, none⟩) n ca) (hb : cur.ownBlock = v.ownBlock) (hown : w.ownsRow base 3 1 cur (n + q) (List.replicate (n + q) (num m)))
    (hS : ∀ z : Addr, v.ownBlock = some z.block → ¬ S (.cell z)) (hm : n ≤ 4611686018427387904) : IntsAt S w v (List.replicate n m) := by
  rcases hv with ⟨rfl, rfl⟩ | ⟨g, ca, rfl⟩
  · exact ⟨none, 0, rfl, (fun j u hj => by simp at hj), (fun ad h => by cases h), (fun _ => rfl), by simp⟩
  · have hg : cur.ownBlock = some g := hb
    refine ⟨some ⟨g, 0, none⟩, ca, by simp, fun j u hj => ⟨_, rfl, ?_⟩, fun ad h => ?_, (fun h => by cases h), by simpa using hm⟩
    · have hj' : j < n := by have := (List.getElem?_eq_some_iff.1 hj).1; simpa using this
      have hu : u = m := by rw [List.getElem?_replicate, if_pos hj'] at hj; exact (Option.some.inj hj).symm
      subst hu
      exact hown.cells hg j (num u) (by rw [List.getElem?_replicate, if_pos (by omega)])
    · cases h
      exact fun x hx => hS x (by rw [hx]; rfl)

theorem Gone.next {S : Loc → Prop} {W0 : World} {base n : Nat} {m : Int} {v cur cur' : Value} {q : Nat} {w w₃ : World} {o : Obj} (hmax : n ≤ 4611686018427387904) (hS : ∀ z : Addr, (v.ownBlock = some z.block ∨ W0.heap.size ≤ z.block) → ¬ S (.cell z)) (hv : (v = .slice none 0 0 ∧ n = 0) ∨ ∃ g ca, v = .slice (some ⟨g, 0, none⟩) n ca)
    (hlt : ∀ k, v.ownBlock = some k → k < W0.heap.size) (hG : Gone S W0 base n m v cur q w) (ho : w₃.ownsRow base 3 1 cur' (n + q + 1) (List.replicate (n + q) (num m) ++ [num m])) (hg : (w.alloc o).grownBy w₃ cur.ownBlock)
    (hb : cur'.ownBlock = cur.ownBlock ∨ (cur'.ownBlock = some (w.alloc o).heap.size ∧ (w.alloc o).grownBy w₃ none)) : Gone S W0 base n m v cur' (q + 1) w₃ := by
  have e : List.replicate (n + q) (num m) ++ [num m] = List.replicate (n + (q + 1)) (num m) := by rw [← List.replicate_succ']; rfl
  rw [e] at ho
  have hsz := hG.kept.size
  have hga : w.grownBy (w.alloc o) none := World.grownBy_alloc w o none
  have hI2 : IntsAt S (w.alloc o) v (List.replicate n m) := hG.old.kept hga fun k _ h => by cases h
  refine ⟨ho, ?_, hG.kept.trans ((KeptBut.of hga (by omega) (fun i _ h => by cases h)).trans (KeptBut.of hg (by simp; omega) fun i hi h => ?_)), ?_⟩
  · rcases hb with hb | ⟨_, hg'⟩
    · rcases hG.blk with hc | ⟨g, hge, hc⟩
      · exact ints_prefix (q := q + 1) hv (hb.trans hc) ho (fun z hz => hS z (.inl hz)) hmax
      · exact hI2.kept hg fun k hk h => by
          rw [hc] at h
          have := hlt k hk
          cases h
          omega
    · exact hI2.kept hg' fun k _ h => by cases h
  · rcases hG.blk with hc | ⟨g, hge, hc⟩
    · rw [h, hc]
    · rw [hc] at h
      cases h
      omega
  · rcases hb with hb | ⟨hb, _⟩
    · rw [hb]; exact hG.blk
    · exact .inr ⟨_, by simp; omega, hb⟩

section
variable {S : Loc → Prop} {cs : List Frame} {X : (Loc → Prop) → Goroutine → World → Prop}
set_option maxRecDepth 100000 in
set_option maxHeartbeats 2000000 in
theorem spoil_loop2 {W0 : World} {base n : Nat} {m : Int} {v : Value} (hmax : (n + 40) * 8 ≤ 140737488355328) (hS : ∀ z : Addr, (v.ownBlock = some z.block ∨ W0.heap.size ≤ z.block) → ¬ S (.cell z)) (hs0 : base ≤ W0.heap.size) (hv : (v = .slice none 0 0 ∧ n = 0) ∨ ∃ g ca, v = .slice (some ⟨g, 0, none⟩) n ca) (hlt : ∀ k, v.ownBlock = some k → k < W0.heap.size)
    (h : ∀ w' cur' T todo d, Gone S W0 base n m v cur' 40 w' → (∀ fn : Func, fn.results = #[.tmp 4] → ResultsC Try.prog fn T cur') → Reach Try.prog S (G { (Go.Conc.base 21).at ⟨T, []⟩ todo with mode := .returning } cs) (w'.at d) X) :
    ∀ (k q : Nat) (w : World) (cur : Value), q + k = 40 → Gone S W0 base n m v cur q w →
    ∀ (j2 j3 j5 j7 j8 j9 j10 j11 j12 j13 j14 j15 j16 j17 j18 j19 j20 j21 j22 j23 j24 j25 : Value) (d : Nat), Reach Try.prog S (G ((Go.Conc.base 21).at ⟨#[cur, num m, j2, j3, .slice none 0 0, j5, num q, j7, j8, j9, j10, j11, j12, j13, j14, j15, j16, j17, j18, j19, j20, j21, j22, j23, j24, j25], []⟩ [.code L21b, .inLoop L21b, .inBlock 2, .code last21]) cs) (w.at d) X := by
  intro k
  induction k with
  | zero =>
    intro q w cur hq hG j2 j3 j5 j7 j8 j9 j10 j11 j12 j13 j14 j15 j16 j17 j18 j19 j20 j21 j22 j23 j24 j25 d
    obtain rfl : q = 40 := by omega
    have h := fun T todo d => h w cur T todo d hG
    clear hG hlt hv
    simp only [L21b, last21, tail21, body21, Try.f21, Option.getD_some, num] at h ⊢
    repeat (first
      | refine r_end ?_ | refine r_skip ?_ | (refine r_region ?_; simp only [List.size_toArray, List.length_cons, List.length_nil, Nat.reduceAdd, Nat.zero_add, List.range, List.range.loop])
      | (refine r_cond (t := false) rfl ?_; simp only [if_true, if_false, Bool.false_eq_true, ↓reduceIte]; refine r_exit rfl ?_)
      | refine r_seq ?_
      | (refine r_op rfl rfl (by decide) (fun w₁ h₁ K hK => ?_); obtain ⟨dd, hdd⟩ := h₁; subst hdd; (try simp only [at_at']); go_simp
         refine hK _ _ ⟨fun e he => (by have hm := mem_listed he; simp [go_sem] at hm), ?_⟩; clear hK K; try walk_nrm))
    refine r_ret ?_
    exact h _ _ _ fun fn hf => resultsC_tmp hf _
  | succ k ih =>
    intro q w cur hq hG j2 j3 j5 j7 j8 j9 j10 j11 j12 j13 j14 j15 j16 j17 j18 j19 j20 j21 j22 j23 j24 j25 d
    have hq' : (q : Int) < 40 := by omega
    have hq2 : q < 40 := by omega
    have ew : IntKind.i64.wrap ((q : Int) + 1) = ((q + 1 : Nat) : Int) := by rw [IntKind.wrap_i64]; omega
    have hsz := hG.kept.size
    clear h
    have hnext := fun w₃ cur' ho hg hb => ih (q + 1) w₃ cur' (by omega) (hG.next (o := .cells #[num m] 3) (cur' := cur') (w₃ := w₃) (by omega) hS hv hlt ho hg hb)
    clear ih
    simp only [L21b, last21, tail21, body21, Try.f21, Option.getD_some, num] at hnext ⊢
    repeat (first
      | refine r_end ?_ | refine r_skip ?_ | (refine r_region ?_; simp only [List.size_toArray, List.length_cons, List.length_nil, Nat.reduceAdd, Nat.zero_add, List.range, List.range.loop])
      | (refine r_cond (t := true) (by simp [Act.eval, hq2, hq']) ?_; simp only [if_true, if_false, Bool.false_eq_true, ↓reduceIte])
      | refine r_seq ?_ | refine r_block ?_
      | (refine r_op rfl rfl (by decide) (fun w₁ h₁ K hK => ?_); obtain ⟨dd, hdd⟩ := h₁; subst hdd; (try simp only [at_at', alloc_at']); go_simp
         refine hK _ _ ⟨fun e he => (by have hm := mem_listed he; simp [go_sem] at hm), ?_⟩; clear hK K; try walk_nrm))
    try simp only [at_at', alloc_at']
    refine r_append' (base := base) (n := n + q) (xs := List.replicate (n + q) (num m)) (w := (w.alloc (.cells #[.int .i64 m] 3)).at _) (.tmp 21) (.tmp 23) (news := [num m]) rfl rfl (by decide) rfl rfl rfl (hG.own.alloc _) rfl (fun j u hj => ?_) (fun u hu => ?_) (by omega) (by show _ ≤ (w.alloc _).heap.size; simp; omega) (fun z hz => hS z (.inr (by rw [hz]; show W0.heap.size ≤ w.heap.size; omega))) (fun z hz => by
      rcases hG.blk with hc | ⟨g, hge, hc⟩
      · exact hS z (.inl (hc.symm.trans hz))
      · have e : some g = some z.block := hc.symm.trans hz
        exact hS z (.inr (by rw [← Option.some.inj e]; exact hge))) (fun v' w' hown' hgrow hmost hblk => ?_)
    · match j, hj with
      | 0, hj =>
        cases hj
        show (w.alloc _).cell? _ = _
        simp [go_sem, num, Addr.add]
    · simp at hu
      subst hu
      rfl
    try walk_nrm
    have hR := hnext w' v' hown' ⟨hgrow.os, hgrow.tape, hgrow.output, hgrow.size, hgrow.block⟩ (hblk.imp id fun h => ⟨h.1, ⟨h.2.os, h.2.tape, h.2.output, h.2.size, h.2.block⟩⟩)
    clear hnext hown' hgrow hblk hmost hG
    repeat (first
      | refine r_end ?_ | (refine r_region ?_; simp only [List.size_toArray, List.length_cons, List.length_nil, Nat.reduceAdd, Nat.zero_add, List.range, List.range.loop])
      | refine r_inBlock ?_
      | (refine r_op rfl rfl (by decide) (fun w₁ h₁ K hK => ?_); obtain ⟨dd, hdd⟩ := h₁; subst hdd; (try simp only [at_at']); go_simp
         refine hK _ _ ⟨fun e he => (by have hm := mem_listed he; simp [go_sem] at hm), ?_⟩; clear hK K; try walk_nrm))
    refine r_inLoop ?_
    exact hR _ _ _ _ _ _ _ _ _ _ _ _ _ _ _ _ _ _ _ _ _ _ _
end


/-- What spoil leaves. -/
def SpoilPost (S : Loc → Prop) (w : World) (n : Nat) (m : Int) (v : Value) (S' : Loc → Prop) (v' : Value) (w' : World) : Prop :=
  S' = S ∧ IntsAt S w' v (List.replicate n m) ∧ IntsAt S w' v' (List.replicate (n + 40) m) ∧ KeptBut w.heap.size v.ownBlock w w' ∧ (v'.ownBlock = v.ownBlock ∨ ∃ g, w.heap.size ≤ g ∧ v'.ownBlock = some g)
set_option maxRecDepth 100000 in
set_option maxHeartbeats 2000000 in
/-- spoil. -/
theorem spoil_calls {S : Loc → Prop} {w : World} {base n : Nat} {m : Int} {v : Value} {xs : List Value} (hown : w.ownsRow base 3 1 v n xs) (hmax : (n + 40) * 8 ≤ 140737488355328) (hS : ∀ z : Addr, (v.ownBlock = some z.block ∨ w.heap.size ≤ z.block) → ¬ S (.cell z)) (hs0 : base ≤ w.heap.size) :
    CallsR Try.prog S 21 #[v, num m] w (SpoilPost S w n m v) := by
  have hlt : ∀ k, v.ownBlock = some k → k < w.heap.size := fun k hk => (hown.lt k hk).2
  have hvf : ∃ a0 ca, v = .slice a0 n ca := by
    rcases hown.2 with ⟨rfl, rfl⟩ | ⟨g, cap, cur, rfl, _⟩
    · exact ⟨_, _, rfl⟩
    · exact ⟨_, _, rfl⟩
  have hv : (v = .slice none 0 0 ∧ n = 0) ∨ ∃ g ca, v = .slice (some ⟨g, 0, none⟩) n ca := by
    rcases hown.2 with h | ⟨g, cap, cur, rfl, _⟩
    · exact .inl h
    · exact .inr ⟨g, cap, rfl⟩
  obtain ⟨a0, ca, rfl⟩ := hvf
  refine CallsR.enter Try.func21 (by rfl) rfl fun cs => ?_
  have fin : ∀ w' cur' T todo d, Gone S w base n m (.slice a0 n ca) cur' 40 w' → (∀ fn : Func, fn.results = #[.tmp 4] → ResultsC Try.prog fn T cur') → Reach Try.prog S (G { (Go.Conc.base 21).at ⟨T, []⟩ todo with mode := .returning } cs) (w'.at d)
      fun S' g w' => ∃ a' todo v, g = G { (Go.Conc.base 21).at a' todo with mode := .returning } cs ∧ a'.defers = [] ∧ ResultsC Try.prog Try.f21 a'.tmps v ∧ SpoilPost S w n m (.slice a0 n ca) S' v w' :=
    fun w' cur' T todo d hG hR => .here ⟨⟨T, []⟩, todo, _, rfl, rfl, hR _ rfl, rfl, hG.old, IntsAt.own' (xs := List.replicate (n + 40) m) (n := n + 40) (by rw [List.map_replicate]; exact hG.own) (fun z hz => by
      rcases hG.blk with hc | ⟨g, hge, hc⟩
      · exact hS z (.inl (hc.symm.trans hz))
      · have e : some g = some z.block := hc.symm.trans hz
        exact hS z (.inr (by rw [← Option.some.inj e]; exact hge))) (by omega), hG.kept.at d, hG.blk⟩
  have loop2 := spoil_loop2 (cs := cs) hmax hS hs0 hv hlt fin 40 0
  have loop1 := spoil_loop1 (S := S) (cs := cs) (n := n) (base := base) (a0 := a0) (ca := ca) (m := m) (X := fun S' g w' => ∃ a' todo v, g = G { (Go.Conc.base 21).at a' todo with mode := .returning } cs ∧ a'.defers = [] ∧ ResultsC Try.prog Try.f21 a'.tmps v ∧ SpoilPost S w n m (.slice a0 n ca) S' v w') (by omega) (fun z hz => hS z (.inl hz)) n 0 w xs (by omega) (by have := hown.1; omega) (by simpa using hown)
  have first : ∀ w', w'.ownsRow base 3 1 (.slice a0 n ca) n (List.replicate n (num m)) → w.grownBy w' (Value.ownBlock (.slice a0 n ca)) → Gone S w base n m (.slice a0 n ca) (.slice a0 n ca) 0 w' := fun w' ho hg =>
    ⟨ho, IntsAt.own' (xs := List.replicate n m) (by simpa using ho) (fun z hz => hS z (.inl hz)) (by omega), KeptBut.of hg (Nat.le_refl _) fun _ _ h => h, .inl rfl⟩
  have hrest := loop1 fun w' j2 j3 j5 j6 j7 j8 j9 j10 j11 j12 j13 j14 j15 j16 j17 j18 j19 j20 j21 j22 j23 j24 j25 d ho hg _ => by
    have l2 := loop2 w' _ (by omega) (first w' ho hg)
    clear loop2 loop1 first fin hv hlt hown ho hg
    simp only [L21b, last21, tail21, body21, Try.f21, Option.getD_some, num] at l2 ⊢
    repeat (first
      | refine r_end ?_ | (refine r_region ?_; simp only [List.size_toArray, List.length_cons, List.length_nil, Nat.reduceAdd, Nat.zero_add, List.range, List.range.loop])
      | refine r_seq ?_ | refine r_block ?_
      | (refine r_op rfl rfl (by decide) (fun w₁ h₁ K hK => ?_); obtain ⟨dd, hdd⟩ := h₁; subst hdd; (try simp only [at_at']); go_simp
         refine hK _ _ ⟨fun e he => (by have hm := mem_listed he; simp [go_sem] at hm), ?_⟩; clear hK K; try walk_nrm))
    refine r_loop ?_
    exact l2 _ _ _ _ _ _ _ _ _ _ _ _ _ _ _ _ _ _ _ _ _ _ _
  clear loop1 loop2 first fin hv hlt hown
  simp only [L21a, tail21, body21, Try.f21, Option.getD_some, Nat.reduceSub, Array.replicate_succ, Array.replicate_zero, List.push_toArray, List.append_toArray, List.nil_append, List.cons_append, List.size_toArray, List.length_cons, List.length_nil, Nat.reduceAdd, Nat.zero_add, num] at hrest ⊢
  repeat (first
      | refine r_end ?_ | (refine r_region ?_; simp only [List.size_toArray, List.length_cons, List.length_nil, Nat.reduceAdd, Nat.zero_add, List.range, List.range.loop])
      | refine r_seq ?_ | refine r_block ?_
      | (refine r_op rfl rfl (by decide) (fun w₁ h₁ K hK => ?_); obtain ⟨dd, hdd⟩ := h₁; subst hdd; (try simp only [at_at']); go_simp
         refine hK _ _ ⟨fun e he => (by have hm := mem_listed he; simp [go_sem] at hm), ?_⟩; clear hK K; try walk_nrm))
  refine r_loop ?_
  exact hrest _ _ _ _ _ _ _ _ _ _ _ _ _ _ _ _ _ _ _ _ _ _ _

end Go.Proofs.Ytdpagejckahkkaa.Net
