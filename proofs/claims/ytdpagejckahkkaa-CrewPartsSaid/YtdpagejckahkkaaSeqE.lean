/- The laws' own helpers beside goroutines that only leave: three answers are one, and each is its holder's. -/
import Derived.Test.YtdpagejckahkkaaSeqD
set_option linter.unusedSimpArgs false
set_option linter.unusedVariables false
namespace Go.Proofs.Ytdpagejckahkkaa.Net
open Go Go.Conc Go.RowKit

theorem IntsAt.but {S : Loc → Prop} {w w' : World} {v : Value} {xs : List Int} {row : Option Nat} (h : IntsAt S w v xs) (k : KeptBut w.heap.size row w w') (hne : ∀ i, v.ownBlock = some i → some i ≠ row) : IntsAt S w' v xs := by
  obtain ⟨a0, cap, rfl, h1, h2, h3⟩ := h
  refine ⟨a0, cap, rfl, fun j u hj => ?_, h2, h3⟩
  obtain ⟨ad, rfl, hc⟩ := h1 j u hj
  exact ⟨ad, rfl, (World.cell?_of_block (k.block _ (World.block_lt_of_cell? w _ hc) (by rw [addBlk']; exact hne _ rfl))).trans hc⟩
theorem own_but {w w' : World} {base n : Nat} {v : Value} {xs : List Value} {row : Option Nat} (h : w.ownsRow base 3 1 v n xs) (k : KeptBut w.heap.size row w w') (hne : ∀ i, v.ownBlock = some i → some i ≠ row) : w'.ownsRow base 3 1 v n xs := by
  refine ⟨h.1, h.2.imp id ?_⟩
  rintro ⟨g, cap, cur, rfl, hb, hg, x⟩
  exact ⟨g, cap, cur, rfl, hb, (k.block g (Array.getElem?_eq_some_iff.1 hg).1 (hne g rfl)).trans hg, x⟩
theorem same_eq {S : Loc → Prop} {w : World} {va vb : Value} {xs : List Int} (hx : IntsAt S w va xs) (hy : IntsAt S w vb xs) : CallsR Try.prog S 12 #[va, vb] w (fun S' v w' => S' = S ∧ v = .bool true ∧ AtRel w w') :=
  (same_calls hx hy).mono fun S' v w' h => ⟨h.1, by rw [h.2.1]; simp, h.2.2⟩

noncomputable def body11 : Code := Try.f11.body.getD .skip
/-- What three leaves. -/
def ThreePost (S : Loc → Prop) (w : World) (a c : Value) (S' : Loc → Prop) (v : Value) (w' : World) : Prop :=
  S' = S ∧ v = .bool true ∧ w'.os = w.os ∧ w'.tape = w.tape ∧ w'.output = w.output ∧ w.heap.size ≤ w'.heap.size ∧ ∀ k, k < w.heap.size → some k ≠ a.ownBlock → some k ≠ c.ownBlock → w'.heap[k]? = w.heap[k]?


set_option maxRecDepth 100000 in
set_option maxHeartbeats 4000000 in
theorem three_calls {S : Loc → Prop} {w : World} {base bc n : Nat} {a b c d : Value} {L : List Int} (ha : w.ownsRow base 3 1 a n (L.map num)) (hb : IntsAt S w b L) (hc : w.ownsRow bc 3 1 c n (L.map num)) (hd : IntsAt S w d L) (hmax : (n + 40) * 8 ≤ 140737488355328)
    (hS : ∀ z : Addr, (a.ownBlock = some z.block ∨ c.ownBlock = some z.block ∨ w.heap.size ≤ z.block) → ¬ S (.cell z)) (hs0 : base ≤ w.heap.size) (hs1 : bc ≤ w.heap.size) (hac : ∀ k, a.ownBlock = some k → c.ownBlock ≠ some k) (hab : ∀ k, b.ownBlock = some k → some k ≠ a.ownBlock ∧ some k ≠ c.ownBlock) (had : ∀ k, d.ownBlock = some k → some k ≠ a.ownBlock ∧ some k ≠ c.ownBlock) :
    CallsR Try.prog S 11 #[a, b, c, d] w (ThreePost S w a c) := by
  refine CallsR.enter Try.func11 (by rfl) rfl fun cs => ?_
  have fin : ∀ w' T todo d0, KeptBut w.heap.size a.ownBlock w w' ∨ True → (w'.os = w.os ∧ w'.tape = w.tape ∧ w'.output = w.output ∧ w.heap.size ≤ w'.heap.size ∧ ∀ k, k < w.heap.size → some k ≠ a.ownBlock → some k ≠ c.ownBlock → w'.heap[k]? = w.heap[k]?) →
      (∀ fn : Func, fn.results = #[.tmp 8] → ResultsC Try.prog fn T (.bool true)) → Reach Try.prog S (G { (Go.Conc.base 11).at ⟨T, []⟩ todo with mode := .returning } cs) (w'.at d0)
      fun S' g w' => ∃ a' todo v, g = G { (Go.Conc.base 11).at a' todo with mode := .returning } cs ∧ a'.defers = [] ∧ ResultsC Try.prog Try.f11 a'.tmps v ∧ ThreePost S w a c S' v w' :=
    fun w' T todo d0 _ hp hR => .here ⟨⟨T, []⟩, todo, _, rfl, rfl, hR _ rfl, rfl, rfl, hp⟩
  have hA := IntsAt.own' ha (fun z hz => hS z (.inl hz)) (by omega)
  have hC := IntsAt.own' hc (fun z hz => hS z (.inr (.inl hz))) (by omega)
  simp only [Try.f11, Option.getD_some, Nat.reduceSub, Array.replicate_succ, Array.replicate_zero, List.push_toArray, List.append_toArray, List.nil_append, List.cons_append, List.size_toArray, List.length_cons, List.length_nil, Nat.reduceAdd, Nat.zero_add] at fin ⊢
  · repeat (first
      | refine r_end ?_ | refine r_skip ?_ | (refine r_region ?_; simp only [List.size_toArray, List.length_cons, List.length_nil, Nat.reduceAdd, Nat.zero_add, List.range, List.range.loop])
      | refine r_seq ?_
      | (refine r_op rfl rfl (by decide) (fun w₁ h₁ K hK => ?_); obtain ⟨dd, hdd⟩ := h₁; subst hdd; (try simp only [at_at']); go_simp
         refine hK _ _ ⟨fun e he => (by have hm := mem_listed he; simp [go_sem] at hm), ?_⟩; clear hK K; try walk_nrm))
    refine r_callx (same_eq hA hd) rfl rfl (by decide) rfl (by simp only [List.map_toArray, List.map_cons, List.map_nil]; rfl) (fun S' v w' hp => ?_)
    obtain ⟨hS', rfl, dd, rfl⟩ := hp
    subst hS'
    try walk_nrm
    repeat (first
      | refine r_end ?_ | refine r_skip ?_ | (refine r_region ?_; simp only [List.size_toArray, List.length_cons, List.length_nil, Nat.reduceAdd, Nat.zero_add, List.range, List.range.loop])
      | refine r_seq ?_
      | (refine r_op rfl rfl (by decide) (fun w₁ h₁ K hK => ?_); obtain ⟨dd, hdd⟩ := h₁; subst hdd; (try simp only [at_at']); go_simp
         refine hK _ _ ⟨fun e he => (by have hm := mem_listed he; simp [go_sem] at hm), ?_⟩; clear hK K; try walk_nrm))
    refine r_callx (same_eq hb hd) rfl rfl (by decide) rfl (by simp only [List.map_toArray, List.map_cons, List.map_nil]; rfl) (fun S' v w' hp => ?_)
    obtain ⟨hS', rfl, dd, rfl⟩ := hp
    subst hS'
    try walk_nrm
    repeat (first
      | refine r_end ?_ | refine r_skip ?_ | (refine r_region ?_; simp only [List.size_toArray, List.length_cons, List.length_nil, Nat.reduceAdd, Nat.zero_add, List.range, List.range.loop])
      | refine r_seq ?_
      | (refine r_op rfl rfl (by decide) (fun w₁ h₁ K hK => ?_); obtain ⟨dd, hdd⟩ := h₁; subst hdd; (try simp only [at_at']); go_simp
         refine hK _ _ ⟨fun e he => (by have hm := mem_listed he; simp [go_sem] at hm), ?_⟩; clear hK K; try walk_nrm))
    refine r_callx (same_eq hC hd) rfl rfl (by decide) rfl (by simp only [List.map_toArray, List.map_cons, List.map_nil]; rfl) (fun S' v w' hp => ?_)
    obtain ⟨hS', rfl, dd, rfl⟩ := hp
    subst hS'
    try walk_nrm
    repeat (first
      | refine r_end ?_ | refine r_skip ?_ | (refine r_region ?_; simp only [List.size_toArray, List.length_cons, List.length_nil, Nat.reduceAdd, Nat.zero_add, List.range, List.range.loop])
      | refine r_seq ?_
      | (refine r_op rfl rfl (by decide) (fun w₁ h₁ K hK => ?_); obtain ⟨dd, hdd⟩ := h₁; subst hdd; (try simp only [at_at']); go_simp
         refine hK _ _ ⟨fun e he => (by have hm := mem_listed he; simp [go_sem] at hm), ?_⟩; clear hK K; try walk_nrm))
    refine r_cond (t := false) rfl ?_; simp only [if_true, if_false, Bool.false_eq_true, ↓reduceIte]
    repeat (first
      | refine r_end ?_ | refine r_skip ?_ | (refine r_region ?_; simp only [List.size_toArray, List.length_cons, List.length_nil, Nat.reduceAdd, Nat.zero_add, List.range, List.range.loop])
      | refine r_seq ?_
      | (refine r_op rfl rfl (by decide) (fun w₁ h₁ K hK => ?_); obtain ⟨dd, hdd⟩ := h₁; subst hdd; (try simp only [at_at']); go_simp
         refine hK _ _ ⟨fun e he => (by have hm := mem_listed he; simp [go_sem] at hm), ?_⟩; clear hK K; try walk_nrm))
    refine r_callx (spoil_calls (w := w.at _) (m := -71) ha hmax (fun z hz => hS z (hz.imp id .inr)) hs0) rfl rfl (by decide) rfl (by simp only [List.map_toArray, List.map_cons, List.map_nil]; rfl) (fun S' x w1 hp => ?_)
    obtain ⟨hS', hA1, hX1, hk1, hx1⟩ := hp
    subst hS'
    have hk1 : KeptBut w.heap.size a.ownBlock w w1 := ⟨hk1.os, hk1.tape, hk1.output, hk1.size, hk1.block⟩
    have hx1 : x.ownBlock = a.ownBlock ∨ ∃ g, w.heap.size ≤ g ∧ x.ownBlock = some g := hx1
    have hb1 := hb.but hk1 fun k hk => (hab k hk).1
    have hd1 := hd.but hk1 fun k hk => (had k hk).1
    have hc1 := own_but hc hk1 fun k hk e => hac k e.symm hk
    have hcl := fun k hk => (hc.lt k hk).2
    try walk_nrm
    repeat (first
      | refine r_end ?_ | refine r_skip ?_ | (refine r_region ?_; simp only [List.size_toArray, List.length_cons, List.length_nil, Nat.reduceAdd, Nat.zero_add, List.range, List.range.loop])
      | refine r_seq ?_
      | (refine r_op rfl rfl (by decide) (fun w₁ h₁ K hK => ?_); obtain ⟨dd, hdd⟩ := h₁; subst hdd; (try simp only [at_at']); go_simp
         refine hK _ _ ⟨fun e he => (by have hm := mem_listed he; simp [go_sem] at hm), ?_⟩; clear hK K; try walk_nrm))
    refine r_callx (spoil_calls (w := w1.at _) (m := -72) hc1 hmax (fun z hz => hS z (.inr (hz.imp id fun h => Nat.le_trans hk1.size h))) (Nat.le_trans hs1 hk1.size)) rfl rfl (by decide) rfl (by simp only [List.map_toArray, List.map_cons, List.map_nil]; rfl) (fun S' y w2 hp => ?_)
    obtain ⟨hS', hC2, hY2, hk2, hy2⟩ := hp
    subst hS'
    have hk2 : KeptBut w1.heap.size c.ownBlock w1 w2 := ⟨hk2.os, hk2.tape, hk2.output, hk2.size, hk2.block⟩
    have hb2 := hb1.but hk2 fun k hk => (hab k hk).2
    have hd2 := hd1.but hk2 fun k hk => (had k hk).2
    have hA2 := hA1.but hk2 fun k hk e => hac k hk e.symm
    have hX2 := hX1.but hk2 fun k hk e => by
      rcases hx1 with h | ⟨g, hg, h⟩
      · exact hac k (h.symm.trans hk) e.symm
      · rw [hk] at h
        cases h
        have := hcl k e.symm
        omega
    have fin := fun T todo d0 => fin w2 T todo d0 (.inr trivial) ⟨hk2.os.trans hk1.os, hk2.tape.trans hk1.tape, hk2.output.trans hk1.output, Nat.le_trans hk1.size hk2.size, fun k hk h1 h2 => (hk2.block k (Nat.lt_of_lt_of_le hk hk1.size) h2).trans (hk1.block k hk h1)⟩
    clear hb hd ha hc hA hC hA1 hX1 hb1 hd1 hc1 hac hab had hx1 hy2
    try walk_nrm
    repeat (first
      | refine r_end ?_ | refine r_skip ?_ | (refine r_region ?_; simp only [List.size_toArray, List.length_cons, List.length_nil, Nat.reduceAdd, Nat.zero_add, List.range, List.range.loop])
      | refine r_seq ?_
      | (refine r_op rfl rfl (by decide) (fun w₁ h₁ K hK => ?_); obtain ⟨dd, hdd⟩ := h₁; subst hdd; (try simp only [at_at']); go_simp
         refine hK _ _ ⟨fun e he => (by have hm := mem_listed he; simp [go_sem] at hm), ?_⟩; clear hK K; try walk_nrm))
    refine r_callx (same_eq hb2 hd2) rfl rfl (by decide) rfl (by simp only [List.map_toArray, List.map_cons, List.map_nil]; rfl) (fun S' v w' hp => ?_)
    obtain ⟨hS', rfl, dd, rfl⟩ := hp
    subst hS'
    try walk_nrm
    repeat (first
      | refine r_end ?_ | refine r_skip ?_ | (refine r_region ?_; simp only [List.size_toArray, List.length_cons, List.length_nil, Nat.reduceAdd, Nat.zero_add, List.range, List.range.loop])
      | refine r_seq ?_
      | (refine r_op rfl rfl (by decide) (fun w₁ h₁ K hK => ?_); obtain ⟨dd, hdd⟩ := h₁; subst hdd; (try simp only [at_at']); go_simp
         refine hK _ _ ⟨fun e he => (by have hm := mem_listed he; simp [go_sem] at hm), ?_⟩; clear hK K; try walk_nrm))
    refine r_callx (full_calls hX2) rfl rfl (by decide) rfl (by simp only [List.map_toArray, List.map_cons, List.map_nil]; rfl) (fun S' v w' hp => ?_)
    obtain ⟨hS', rfl, dd, rfl⟩ := hp
    subst hS'
    try walk_nrm
    repeat (first
      | refine r_end ?_ | refine r_skip ?_ | (refine r_region ?_; simp only [List.size_toArray, List.length_cons, List.length_nil, Nat.reduceAdd, Nat.zero_add, List.range, List.range.loop])
      | refine r_seq ?_
      | (refine r_op rfl rfl (by decide) (fun w₁ h₁ K hK => ?_); obtain ⟨dd, hdd⟩ := h₁; subst hdd; (try simp only [at_at']); go_simp
         refine hK _ _ ⟨fun e he => (by have hm := mem_listed he; simp [go_sem] at hm), ?_⟩; clear hK K; try walk_nrm))
    refine r_callx (full_calls hY2) rfl rfl (by decide) rfl (by simp only [List.map_toArray, List.map_cons, List.map_nil]; rfl) (fun S' v w' hp => ?_)
    obtain ⟨hS', rfl, dd, rfl⟩ := hp
    subst hS'
    try walk_nrm
    repeat (first
      | refine r_end ?_ | refine r_skip ?_ | (refine r_region ?_; simp only [List.size_toArray, List.length_cons, List.length_nil, Nat.reduceAdd, Nat.zero_add, List.range, List.range.loop])
      | refine r_seq ?_
      | (refine r_op rfl rfl (by decide) (fun w₁ h₁ K hK => ?_); obtain ⟨dd, hdd⟩ := h₁; subst hdd; (try simp only [at_at']); go_simp
         refine hK _ _ ⟨fun e he => (by have hm := mem_listed he; simp [go_sem] at hm), ?_⟩; clear hK K; try walk_nrm))
    refine r_callx (full_calls hA2) rfl rfl (by decide) rfl (by simp only [List.map_toArray, List.map_cons, List.map_nil]; rfl) (fun S' v w' hp => ?_)
    obtain ⟨hS', rfl, dd, rfl⟩ := hp
    subst hS'
    try walk_nrm
    repeat (first
      | refine r_end ?_ | refine r_skip ?_ | (refine r_region ?_; simp only [List.size_toArray, List.length_cons, List.length_nil, Nat.reduceAdd, Nat.zero_add, List.range, List.range.loop])
      | refine r_seq ?_
      | (refine r_op rfl rfl (by decide) (fun w₁ h₁ K hK => ?_); obtain ⟨dd, hdd⟩ := h₁; subst hdd; (try simp only [at_at']); go_simp
         refine hK _ _ ⟨fun e he => (by have hm := mem_listed he; simp [go_sem] at hm), ?_⟩; clear hK K; try walk_nrm))
    refine r_callx (full_calls hC2) rfl rfl (by decide) rfl (by simp only [List.map_toArray, List.map_cons, List.map_nil]; rfl) (fun S' v w' hp => ?_)
    obtain ⟨hS', rfl, dd, rfl⟩ := hp
    subst hS'
    try walk_nrm
    repeat (first
      | refine r_end ?_ | refine r_skip ?_ | (refine r_region ?_; simp only [List.size_toArray, List.length_cons, List.length_nil, Nat.reduceAdd, Nat.zero_add, List.range, List.range.loop])
      | refine r_seq ?_
      | (refine r_op rfl rfl (by decide) (fun w₁ h₁ K hK => ?_); obtain ⟨dd, hdd⟩ := h₁; subst hdd; (try simp only [at_at']); go_simp
         refine hK _ _ ⟨fun e he => (by have hm := mem_listed he; simp [go_sem] at hm), ?_⟩; clear hK K; try walk_nrm))
    refine r_ret ?_
    exact fin _ _ _ fun fn hf => resultsC_tmp hf _

end Go.Proofs.Ytdpagejckahkkaa.Net
