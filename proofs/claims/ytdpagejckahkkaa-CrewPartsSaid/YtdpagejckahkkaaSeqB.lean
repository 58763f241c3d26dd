/- The laws' own helpers beside goroutines that only leave: a list is copied; is written full and gone on with; is full. -/
import Derived.Test.YtdpagejckahkkaaSeqA
set_option linter.unusedSimpArgs false
set_option linter.unusedVariables false
namespace Go.Proofs.Ytdpagejckahkkaa.Net
open Go Go.Conc Go.RowKit

theorem evF_append {S : Loc → Prop} {src : Nat} {own : Option Nat} {e : Event} (h : EvA src own e) (hs : ∀ x : Addr, x.block = src → ¬ S (.cell x)) (ho : ∀ k, own = some k → ∀ x : Addr, x.block = k → ¬ S (.cell x)) : EvF S e := by
  rcases h with ⟨ad, hl, hc⟩ | ⟨m, rfl, hm⟩
  · have hS : ¬ S (.cell ad) := hc.elim (fun h => hs ad h.2) fun h => ho _ h.symm ad rfl
    obtain ⟨loc, wr, sy⟩ := e
    simp only at hl
    subst hl
    exact ⟨fun x hx hs => by simp only [ofEvent_cell0, MemAct.touch?, Option.some.injEq] at hx; subst hx; exact absurd hs hS, by simp, by simp⟩
  · exact evF_neutral hm

theorem grown_trans {a b c : World} {row : Option Nat} (h : a.grownBy b row) (k : b.grownBy c row) : a.grownBy c row :=
  ⟨k.os.trans h.os, k.tape.trans h.tape, k.output.trans h.output, Nat.le_trans h.size k.size, fun i hi hne => (k.block i (Nat.lt_of_lt_of_le hi h.size) hne).trans (h.block i hi hne)⟩
theorem grown_any {a b : World} {row : Option Nat} (h : a.grownBy b none) : a.grownBy b row := ⟨h.os, h.tape, h.output, h.size, fun i hi _ => h.block i hi (by simp)⟩
theorem grown_refl (w : World) (row : Option Nat) : w.grownBy w row := ⟨rfl, rfl, rfl, Nat.le_refl _, fun _ _ _ => rfl⟩
theorem grown_at {a b : World} {row : Option Nat} (h : a.grownBy b row) (d : Nat) : a.grownBy (b.at d) row := ⟨h.os, h.tape, h.output, h.size, h.block⟩
theorem rel_grown {a b : World} (h : AtRel a b) (row : Option Nat) : a.grownBy b row := by obtain ⟨d, rfl⟩ := h; exact grown_at (grown_refl a row) d

/-- A list stays as it reads where its block stays as it is. -/
theorem IntsAt.kept {S : Loc → Prop} {w w' : World} {v : Value} {xs : List Int} (h : IntsAt S w v xs) {row : Option Nat} (hg : w.grownBy w' row) (hne : ∀ k, v.ownBlock = some k → some k ≠ row) : IntsAt S w' v xs := by
  obtain ⟨a0, cap, rfl, h1, h2, h3, h4⟩ := h
  refine ⟨a0, cap, rfl, fun j u hj => ?_, h2, h3, h4⟩
  obtain ⟨ad, rfl, hc⟩ := h1 j u hj
  exact ⟨ad, rfl, hg.cell hc (by rw [addBlk']; exact hne _ rfl)⟩
theorem IntsAt.rel {S : Loc → Prop} {w w' : World} {v : Value} {xs : List Int} (h : IntsAt S w v xs) (r : AtRel w w') : IntsAt S w' v xs := by obtain ⟨d, rfl⟩ := r; exact h
/-- A row of one's own is such a list. -/
theorem IntsAt.own {S : Loc → Prop} {w : World} {base : Nat} {v : Value} {n : Nat} {xs : List Int} (h : w.ownsRow base 3 1 v n (xs.map num)) (hS : ∀ x : Addr, base ≤ x.block → ¬ S (.cell x)) (hm : n ≤ 4611686018427387904) : IntsAt S w v xs := by
  have hl : xs.length = n := by simpa using h.1
  rcases h.2 with ⟨rfl, rfl⟩ | ⟨g, cap, cur, rfl, hb, hg, _⟩
  · have : xs = [] := List.eq_nil_of_length_eq_zero hl
    subst this
    exact ⟨none, 0, rfl, (fun j u hj => by simp at hj), (fun ad h => by cases h), (fun _ => rfl), by simp⟩
  · refine ⟨some ⟨g, 0, none⟩, cap, by rw [hl], fun j u hj => ⟨_, rfl, h.cells rfl j (num u) (by simp [hj])⟩, fun ad h => ?_, (fun h => by cases h), by rw [hl]; exact hm⟩
    cases h
    exact fun x hx => hS x (by rw [hx]; exact hb)

theorem IntsAt.own' {S : Loc → Prop} {w : World} {base : Nat} {v : Value} {n : Nat} {xs : List Int} (h : w.ownsRow base 3 1 v n (xs.map num)) (hS : ∀ x : Addr, v.ownBlock = some x.block → ¬ S (.cell x)) (hm : n ≤ 4611686018427387904) : IntsAt S w v xs := by
  obtain ⟨a0, cap, rfl, h1, _, h2, h3⟩ := IntsAt.own (S := fun _ => False) h (fun _ _ => id) hm
  refine ⟨a0, cap, rfl, h1, fun ad h x hx => hS x ?_, h2, h3⟩
  subst h
  rw [hx]
  rfl
/-- append, onto a row of one's own, at goroutine 0's walk. -/
theorem r_append' {S : Loc → Prop} {b : Frame} {a : Act} {k : List Item} {cs : List Frame} {w : World} {X : (Loc → Prop) → Goroutine → World → Prop} {ops : Array Oper} {i : Nat} {rest : List Nat} {o : Oper} (s x : Operand) {v : Value} {base n m c : Nat} {xs news : List Value} {ad : Addr}
    (ho : ops[i]? = some o) (hw : Region.wanted o (yielded ops a.tmps) = true) (hk : b.kind ≠ .early) (hop : o.op = .call { callee := .builtin .append, args := #[s, x], argTypes := #[22, 22] }) (hs : a.eval s = v) (hx : a.eval x = .slice (some ad) m c)
    (hown : w.ownsRow base 3 1 v n xs) (hl : news.length = m) (hnews : ∀ (j : Nat) u, news[j]? = some u → w.cell? (ad.add j) = some u) (h1 : ∀ u ∈ news, u.oneCell' = true) (hb : (n + m) * 8 ≤ 140737488355328) (hbase : base ≤ w.heap.size)
    (hS1 : ∀ z : Addr, z.block = ad.block → ¬ S (.cell z)) (hS2 : ∀ z : Addr, v.ownBlock = some z.block → ¬ S (.cell z))
    (h : ∀ v' w', w'.ownsRow base 3 1 v' (n + m) (xs ++ news) → w.grownBy w' v.ownBlock → w'.heap.size ≤ w.heap.size + 1 → (v'.ownBlock = v.ownBlock ∨ (v'.ownBlock = some w.heap.size ∧ w.grownBy w' none)) → Reach Try.prog S (G (b.at (a.put o.dst v') (.inRegion ops rest :: k)) cs) w' X) :
    Reach Try.prog S (G (b.at a (.inRegion ops (i :: rest) :: k)) cs) w X := by
  refine r_op ho hw hk (fun w₁ h₁ K hK => ?_)
  obtain ⟨dd, rfl⟩ := h₁
  obtain ⟨v', w₂, hr, hown', hgrow, hmost, hblk, hevs⟩ := append_ints (w.at dd) base o.type v n xs hown ad m c news hl hnews h1 hb hbase
  refine uponK_append s x 22 hop hs hx hr (hK _ _ ⟨fun e he => ?_, h v' w₂ hown' ⟨hgrow.os, hgrow.tape, hgrow.output, hgrow.size, hgrow.block⟩ hmost (hblk.imp id fun h => ⟨h.1, ⟨h.2.os, h.2.tape, h.2.output, h.2.size, h.2.block⟩⟩)⟩)
  have hm' := mem_listed he
  rw [events_append_op s x 22 hop hs hx] at hm'
  exact evF_append (hevs e hm') hS1 fun k hk z hz => hS2 z (by rw [hz]; exact hk)
theorem r_append {S : Loc → Prop} {b : Frame} {a : Act} {k : List Item} {cs : List Frame} {w : World} {X : (Loc → Prop) → Goroutine → World → Prop} {ops : Array Oper} {i : Nat} {rest : List Nat} {o : Oper} (s x : Operand) {v : Value} {base n m c : Nat} {xs news : List Value} {ad : Addr}
    (ho : ops[i]? = some o) (hw : Region.wanted o (yielded ops a.tmps) = true) (hk : b.kind ≠ .early) (hop : o.op = .call { callee := .builtin .append, args := #[s, x], argTypes := #[22, 22] }) (hs : a.eval s = v) (hx : a.eval x = .slice (some ad) m c)
    (hown : w.ownsRow base 3 1 v n xs) (hl : news.length = m) (hnews : ∀ (j : Nat) u, news[j]? = some u → w.cell? (ad.add j) = some u) (h1 : ∀ u ∈ news, u.oneCell' = true) (hb : (n + m) * 8 ≤ 140737488355328) (hbase : base ≤ w.heap.size)
    (hS1 : ∀ z : Addr, z.block = ad.block → ¬ S (.cell z)) (hS2 : ∀ z : Addr, base ≤ z.block → ¬ S (.cell z))
    (h : ∀ v' w', w'.ownsRow base 3 1 v' (n + m) (xs ++ news) → w.grownBy w' v.ownBlock → w'.heap.size ≤ w.heap.size + 1 → (v'.ownBlock = v.ownBlock ∨ (v'.ownBlock = some w.heap.size ∧ w.grownBy w' none)) → Reach Try.prog S (G (b.at (a.put o.dst v') (.inRegion ops rest :: k)) cs) w' X) :
    Reach Try.prog S (G (b.at a (.inRegion ops (i :: rest) :: k)) cs) w X :=
  r_append' s x ho hw hk hop hs hx hown hl hnews h1 hb hbase hS1 (fun z hz => hS2 z (hown.lt _ hz).1) h

noncomputable def body10 : Code := Try.f10.body.getD .skip
/-- What ints leaves. -/
def CopyPost (S : Loc → Prop) (w : World) (xs : List Int) (S' : Loc → Prop) (v : Value) (w' : World) : Prop := S' = S ∧ w'.ownsRow w.heap.size 3 1 v xs.length (xs.map num) ∧ w.grownBy w' none ∧ w'.heap.size ≤ w.heap.size + 1
set_option maxRecDepth 100000 in
/-- A list is copied. -/
theorem ints_calls {S : Loc → Prop} {w : World} {v : Value} {xs : List Int} (hx : IntsAt S w v xs) (hb : xs.length * 8 ≤ 140737488355328) (hS : ∀ z : Addr, w.heap.size ≤ z.block → ¬ S (.cell z)) : CallsR Try.prog S 10 #[v] w (CopyPost S w xs) := by
  obtain ⟨a0, ca, rfl, hx, hxS, hxn, hxm⟩ := hx
  refine CallsR.enter Try.func10 (by rfl) rfl fun cs => ?_
  have fin : ∀ v w' T todo d, CopyPost S w xs S v w' → (∀ fn : Func, fn.results = #[.tmp 2] → ResultsC Try.prog fn T v) → Reach Try.prog S (G { (base 10).at ⟨T, []⟩ todo with mode := .returning } cs) (w'.at d)
      fun S' g w' => ∃ a' todo v, g = G { (base 10).at a' todo with mode := .returning } cs ∧ a'.defers = [] ∧ ResultsC Try.prog Try.f10 a'.tmps v ∧ CopyPost S w xs S' v w' :=
    fun v w' T todo d hp hR => .here ⟨⟨T, []⟩, todo, _, rfl, rfl, hR _ rfl, hp.1, hp.2.1, grown_at hp.2.2.1 d, hp.2.2.2⟩
  simp only [Try.f10, Option.getD_some, Nat.reduceSub, Array.replicate_succ, Array.replicate_zero, List.push_toArray, List.append_toArray, List.nil_append, List.cons_append, List.size_toArray, List.length_cons, List.length_nil, Nat.reduceAdd, Nat.zero_add] at fin ⊢
  repeat (first
      | refine r_end ?_ | refine r_skip ?_ | (refine r_region ?_; simp only [List.size_toArray, List.length_cons, List.length_nil, Nat.reduceAdd, Nat.zero_add, List.range, List.range.loop])
      | refine r_seq ?_ | refine r_block ?_ | refine r_inBlock ?_
      | (refine r_op rfl rfl (by decide) (fun w₁ h₁ K hK => ?_); obtain ⟨dd, hdd⟩ := h₁; subst hdd; (try simp only [at_at']); go_simp
         refine hK _ _ ⟨fun e he => (by have hm := mem_listed he; simp [go_sem] at hm), ?_⟩; clear hK K; try walk_nrm))
  cases a0 with
  | none =>
    have e : xs = [] := by
      cases xs with
      | nil => rfl
      | cons u r => obtain ⟨_, h, _⟩ := hx 0 u rfl; cases h
    subst e
    obtain rfl := hxn rfl
    refine r_op rfl rfl (by decide) (fun w₁ h₁ K hK => ?_)
    obtain ⟨dd, hdd⟩ := h₁
    subst hdd
    obtain ⟨hr, he⟩ := append_none (w.at dd) w.heap.size 22 (.slice none 0 0) 0 [] (World.ownsRow_nil _ _ _ _)
    refine uponK_append (.tmp 4) (.tmp 5) 22 rfl rfl rfl hr (hK _ _ ⟨fun e h => ?_, ?_⟩)
    · have hm' := mem_listed h
      rw [events_append_op (.tmp 4) (.tmp 5) 22 rfl rfl rfl] at hm'
      have hm2 : e ∈ (Builtin.append_ #[22, 22] 22 #[.slice none 0 0, .slice none 0 0]).events Try.prog (w.at dd) #[] := hm'
      rw [he] at hm2
      simp at hm2
    · clear hK K
      try walk_nrm
      repeat (first
      | refine r_end ?_ | refine r_skip ?_ | (refine r_region ?_; simp only [List.size_toArray, List.length_cons, List.length_nil, Nat.reduceAdd, Nat.zero_add, List.range, List.range.loop])
      | refine r_seq ?_ | refine r_block ?_ | refine r_inBlock ?_
      | (refine r_op rfl rfl (by decide) (fun w₁ h₁ K hK => ?_); obtain ⟨dd, hdd⟩ := h₁; subst hdd; (try simp only [at_at']); go_simp
         refine hK _ _ ⟨fun e he => (by have hm := mem_listed he; simp [go_sem] at hm), ?_⟩; clear hK K; try walk_nrm))
      refine r_ret ?_
      exact fin _ w _ _ _ ⟨rfl, World.ownsRow_nil _ _ _ _, grown_refl w none, Nat.le_succ _⟩ fun fn hf => resultsC_tmp hf _
  | some ad =>
    refine r_append (base := w.heap.size) (xs := []) (.tmp 4) (.tmp 5) rfl rfl (by decide) rfl rfl rfl (World.ownsRow_nil _ _ _ _) (news := xs.map num) (by simp) (fun j u hj => ?_) (fun u hu => ?_) (by omega) (by show _ ≤ w.heap.size; exact Nat.le_refl _) (hxS ad rfl) hS (fun v' w' hown' hgrow hmost _ => ?_)
    · simp only [List.getElem?_map, Option.map_eq_some_iff] at hj
      obtain ⟨x, hj, rfl⟩ := hj
      obtain ⟨ad', h', hc⟩ := hx j x hj
      cases h'
      exact hc
    · obtain ⟨x, _, rfl⟩ := List.mem_map.1 hu
      rfl
    · try walk_nrm
      repeat (first
      | refine r_end ?_ | refine r_skip ?_ | (refine r_region ?_; simp only [List.size_toArray, List.length_cons, List.length_nil, Nat.reduceAdd, Nat.zero_add, List.range, List.range.loop])
      | refine r_seq ?_ | refine r_block ?_ | refine r_inBlock ?_
      | (refine r_op rfl rfl (by decide) (fun w₁ h₁ K hK => ?_); obtain ⟨dd, hdd⟩ := h₁; subst hdd; (try simp only [at_at']); go_simp
         refine hK _ _ ⟨fun e he => (by have hm := mem_listed he; simp [go_sem] at hm), ?_⟩; clear hK K; try walk_nrm))
      refine r_ret ?_
      exact fin _ w' _ _ _ ⟨rfl, by simpa using hown', ⟨hgrow.os, hgrow.tape, hgrow.output, hgrow.size, hgrow.block⟩, hmost⟩ fun fn hf => resultsC_tmp hf _
end Go.Proofs.Ytdpagejckahkkaa.Net
