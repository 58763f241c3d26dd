/- The closed call with which two of the laws begin: numbers go along a row, and come in turns. -/
import Derived.Test.YtdpagejckahkkaaCalls
import Derived.RangeFuncRecord
import Derived.Lib.Hide
set_option linter.unusedSimpArgs false
set_option linter.unusedVariables false
set_option maxRecDepth 100000
namespace Go.Proofs.Ytdpagejckahkkaa.Net
open Go Go.Conc Go.RowKit
open Go.ConcN (ShN)

theorem heap_up {w : World} {k : Nat} {x : Obj} (h : w.heap[k]? = some x) (o : Obj) : (w.alloc o).heap[k]? = some x := (heap_alloc_old _ _ _ (Array.getElem?_eq_some_iff.1 h).1).trans h
theorem heap_new (w : World) (o : Obj) {k : Nat} (h : k = w.heap.size) : (w.alloc o).heap[k]? = some o := by rw [h]; exact World.alloc_heap_new w o
theorem grown_alloc {a b : World} (h : a.grownBy b none) (o : Obj) : a.grownBy (b.alloc o) none := grown_trans h (World.grownBy_alloc b o none)

/-- What is shunned after a call that is made, and the heap it saw. -/
noncomputable def AlivePost (S : Loc → Prop) (w : World) (S' : Loc → Prop) (v : Value) (w' : World) : Prop := v = .bool true ∧ More S S' w w' ∧ w.grownBy w' none

noncomputable def Wa (w : World) : World := (w.alloc (.cells #[num 1, num 2, num 3] 3)).alloc (.cells #[num 10, num 100] 3)
noncomputable def Wb (w : World) : World := (((w.alloc (.cells #[num 1, num 2] 3)).alloc (.cells #[num 7, num 8, num 9] 3)).alloc (.cells #[.slice (some ⟨w.heap.size, 0, none⟩) 2 2, .slice (some ⟨w.heap.size + 1, 0, none⟩) 3 3] 22)).alloc (.cells #[num 1, num 0, num 1, num 1, num 1, num 0, num 0] 3)
def hdb (w : World) : Nat → Value
  | 0 => .slice (some ⟨w.heap.size, 0, none⟩) 2 2
  | _ => .slice (some ⟨w.heap.size + 1, 0, none⟩) 3 3
theorem size_Wa (w : World) : (Wa w).heap.size = w.heap.size + 2 := by simp [Wa]
theorem size_Wb (w : World) : (Wb w).heap.size = w.heap.size + 4 := by simp [Wb]
theorem grown_Wa (w : World) : w.grownBy (Wa w) none := grown_alloc (World.grownBy_alloc w _ none) _
theorem grown_Wb (w : World) : w.grownBy (Wb w) none := grown_alloc (grown_alloc (grown_alloc (World.grownBy_alloc w _ none) _) _) _
theorem wa_ints {S : Loc → Prop} {w : World} (hS : SL S w) (d : Nat) : IntsAt S ((Wa w).at d) (.slice (some ⟨w.heap.size, 0, none⟩) 3 3) [1, 2, 3] ∧ IntsAt S ((Wa w).at d) (.slice (some ⟨w.heap.size + 1, 0, none⟩) 2 2) [10, 100] :=
  ⟨lit_ints (w := (Wa w).at d) [1, 2, 3] (t := 3) (heap_up (heap_new w _ rfl) _) (fun z hz => hS.new z (by omega)) (by simp), lit_ints (w := (Wa w).at d) [10, 100] (t := 3) (heap_new _ _ (by simp)) (fun z hz => hS.new z (by omega)) (by simp)⟩
theorem wb_ints {S : Loc → Prop} {w : World} (hS : SL S w) (d : Nat) : IntsAt S ((Wb w).at d) (.slice (some ⟨w.heap.size + 3, 0, none⟩) 7 7) [1, 0, 1, 1, 1, 0, 0] :=
  lit_ints (w := (Wb w).at d) [1, 0, 1, 1, 1, 0, 0] (t := 3) (heap_new _ _ (by simp)) (fun z hz => hS.new z (by omega)) (by simp)
theorem wb_parts {S : Loc → Prop} {w : World} (hS : SL S w) (d : Nat) : PartsAt S ((Wb w).at d) (some ⟨w.heap.size + 2, 0, none⟩) [[1, 2], [7, 8, 9]] (hdb w) where
  cell j hj := by
    have h : ((Wb w).at d).heap[w.heap.size + 2]? = some (.cells #[.slice (some ⟨w.heap.size, 0, none⟩) 2 2, .slice (some ⟨w.heap.size + 1, 0, none⟩) 3 3] 22) := heap_up (heap_new _ _ (by simp)) _
    refine ⟨_, rfl, ?_⟩
    match j, hj with
    | 0, _ => simp [World.cell?, Addr.add, h, hdb]
    | 1, _ => simp [World.cell?, Addr.add, h, hdb]
    | n + 2, hj => exact absurd hj (by simp)
  clear ad h x hx := hS.new x (by cases h; rw [hx]; show _ ≤ w.heap.size + 2; omega)
  row j xs h := by
    match j, h with
    | 0, h => cases h; exact lit_ints (w := (Wb w).at d) [1, 2] (t := 3) (heap_up (heap_up (heap_up (heap_new w _ rfl) _) _) _) (fun z hz => hS.new z (by omega)) (by simp)
    | 1, h => cases h; exact lit_ints (w := (Wb w).at d) [7, 8, 9] (t := 3) (heap_up (heap_up (heap_new _ _ (by simp)) _) _) (fun z hz => hS.new z (by omega)) (by simp)
    | n + 2, h => simp at h
/-- 'same' against a literal. -/
theorem lit_at {S : Loc → Prop} {w : World} (hS : SL S w) (xs : List Int) (hl : xs.length ≤ 4611686018427387904) (k : Nat) (hk : k = w.heap.size) : IntsAt S (w.alloc (.cells (xs.map num).toArray 3)) (.slice (some ⟨k, 0, none⟩) xs.length xs.length) xs := lit_ints xs (heap_new w _ hk) (fun z hz => hS.new z (by omega)) hl

theorem alive_body : ∃ c, Try.f15.body = some c := ⟨_, rfl⟩
set_option maxHeartbeats 4000000 in
theorem alive_calls {S : Loc → Prop} {w : World} (hS : SL S w) : CallsR Try.prog S 15 #[] w (AlivePost S w) := by
  refine CallsR.enter Try.func15 (by rfl) rfl fun cs => ?_
  have fin : ∀ S' w' T todo d, More S S' w w' → w.grownBy w' none → (∀ fn : Func, fn.results = #[.tmp 0] → ResultsC Try.prog fn T (.bool true)) → Reach Try.prog S' (G { (base 15).at ⟨T, []⟩ todo with mode := .returning } cs) (w'.at d)
      fun S' g w' => ∃ a' todo v, g = G { (base 15).at a' todo with mode := .returning } cs ∧ a'.defers = [] ∧ ResultsC Try.prog Try.f15 a'.tmps v ∧ AlivePost S w S' v w' :=
    fun S' w' T todo d hm hg hR => .here ⟨⟨T, []⟩, todo, _, rfl, rfl, hR _ rfl, rfl, hm, grown_at hg d⟩
  simp only [Try.f15, Option.getD_some, Nat.reduceSub, Array.replicate_succ, Array.replicate_zero, List.push_toArray, List.append_toArray, List.nil_append, List.cons_append, List.size_toArray, List.length_cons, List.length_nil, Nat.reduceAdd, Nat.zero_add] at fin ⊢
  have hS0 := Lib.hid hS
  clear hS
  have fin0 := Lib.hid fin
  clear fin
  repeat (first
      | refine r_end ?_ | refine r_skip ?_ | (refine r_region ?_; simp only [List.size_toArray, List.length_cons, List.length_nil, Nat.reduceAdd, Nat.zero_add, List.range, List.range.loop])
      | refine r_seq ?_
      | (refine r_op rfl rfl (by decide) (fun w₁ h₁ K hK => ?_); obtain ⟨dd, hdd⟩ := h₁; subst hdd; (try simp only [at_at', alloc_at']); go_simp
         refine hK _ _ ⟨fun e he => (by have hm := mem_listed he; simp [go_sem] at hm), ?_⟩; clear hK K; try walk_nrm))
  change Net.Reach Try.prog _ _ ((Wa w).at dd) _
  have hSa : SL S ((Wa w).at dd) := hS0.out.up (by show _ ≤ (Wa w).heap.size; rw [size_Wa]; omega)
  refine r_callx (relay_at (wa_ints hS0.out dd).1 (fun k hk => by cases hk; show w.heap.size < (Wa w).heap.size; rw [size_Wa]; omega) (wa_ints hS0.out dd).2 (fun k hk => by cases hk; show w.heap.size + 1 < (Wa w).heap.size; rw [size_Wa]; omega) (by simp) (by simp) hSa) rfl rfl (by decide) rfl (by simp only [List.map_toArray, List.map_cons, List.map_nil]; rfl) (fun S' a w1 hp => ?_)
  obtain ⟨hS', hO1, gw1⟩ := hp
  have hS' := hS'.symm; subst hS'
  rw [alive_relay] at hO1
  have gw1 : w.grownBy w1 none := grown_trans (grown_at (grown_Wa w) dd) gw1
  have hO1 : w1.ownsRow (w.heap.size + 2) 3 1 a 3 ([111, 112, 113].map num) := by
    have : ((Wa w).at dd).heap.size = w.heap.size + 2 := size_Wa w
    rw [this] at hO1
    exact hO1
  have hS1 : SL S w1 := hS0.out.up gw1.size
  have HO1 := Lib.hid hO1
  have HS1 := Lib.hid hS1
  have GW1 := Lib.hid gw1
  clear hSa hO1 hS1 gw1
  try walk_nrm
  repeat (first
      | refine r_end ?_ | refine r_skip ?_ | (refine r_region ?_; simp only [List.size_toArray, List.length_cons, List.length_nil, Nat.reduceAdd, Nat.zero_add, List.range, List.range.loop])
      | refine r_seq ?_
      | (refine r_op rfl rfl (by decide) (fun w₁ h₁ K hK => ?_); obtain ⟨dd, hdd⟩ := h₁; subst hdd; (try simp only [at_at', alloc_at']); go_simp
         refine hK _ _ ⟨fun e he => (by have hm := mem_listed he; simp [go_sem] at hm), ?_⟩; clear hK K; try walk_nrm))
  change Net.Reach Try.prog _ _ ((Wb w1).at dd) _
  have hSb : SL S ((Wb w1).at dd) := HS1.out.up (by show _ ≤ (Wb w1).heap.size; rw [size_Wb]; omega)
  refine r_callx (merge_at (wb_parts HS1.out dd) (wb_ints HS1.out dd) (by simp) hSb) rfl rfl (by decide) rfl (by simp only [List.map_toArray, List.map_cons, List.map_nil]; rfl) (fun S' b w2 hp => ?_)
  obtain ⟨hm2, hO2, gw2, hcl⟩ := hp
  rw [alive_merge] at hO2
  clear hSb
  have gb2 : w1.grownBy w2 none := grown_trans (grown_at (grown_Wb w1) dd) gw2
  have hm : More S S' w w2 := by
    intro l hl
    rcases hm2 l hl with h | ⟨n, h1, h2, h3⟩
    · exact .inl h
    · have h2 : (Wb w1).heap.size ≤ n := h2
      rw [size_Wb] at h2
      have := GW1.out.size
      exact .inr ⟨n, h1, by omega, h3⟩
  have hS2 : SL S' w2 := hm.sl hS0.out (Nat.le_trans GW1.out.size gb2.size)
  have hA2 : IntsAt S' w2 a [111, 112, 113] := by
    refine row_ints HO1.out gb2 (fun k hk x hx hs => ?_) (by simp)
    obtain ⟨k1, k2⟩ := HO1.out.lt k hk
    have e1 := size_Wb w1
    rcases hm2 _ hs with h | ⟨n, ⟨a, e, h1⟩, h2, h3⟩
    · have := hS0.out.low _ h
      have : x.block < w.heap.size := this
      omega
    · obtain rfl := Loc.cell.inj e
      have h1 : x.block = n := h1
      have h2 : (Wb w1).heap.size ≤ n := h2
      omega
  have hB2 : IntsAt S' w2 b [7, 1, 8, 9, 2] := row_ints (n := 5) hO2 (grown_refl _ _) hcl (by simp)
  have gw2 : w.grownBy w2 none := grown_trans GW1.out gb2
  have HA2 := Lib.hid hA2
  have HB2 := Lib.hid hB2
  have GW2 := Lib.hid gw2
  have HS2 := Lib.hid hS2
  have HM := Lib.hid hm
  clear hcl gb2 HO1 hO2 GW1 hm2 hS0 HS1 hA2 hB2 gw2 hS2 hm
  try walk_nrm
  repeat (first
      | refine r_end ?_ | refine r_skip ?_ | (refine r_region ?_; simp only [List.size_toArray, List.length_cons, List.length_nil, Nat.reduceAdd, Nat.zero_add, List.range, List.range.loop])
      | refine r_seq ?_
      | (refine r_op rfl rfl (by decide) (fun w₁ h₁ K hK => ?_); obtain ⟨dd, hdd⟩ := h₁; subst hdd; (try simp only [at_at', alloc_at']); go_simp
         refine hK _ _ ⟨fun e he => (by have hm := mem_listed he; simp [go_sem] at hm), ?_⟩; clear hK K; try walk_nrm))
  try simp only [at_at', alloc_at']
  refine r_callx (same17_calls (w := (w2.alloc (.cells #[num 111, num 112, num 113] 3)).at _) ((HA2.out.kept (World.grownBy_alloc w2 _ none) fun k _ e => by cases e).rel ⟨_, rfl⟩) ((lit_at HS2.out [111, 112, 113] (by simp) w2.heap.size rfl).rel ⟨_, rfl⟩)) rfl rfl (by decide) rfl (by simp only [List.map_toArray, List.map_cons, List.map_nil]; rfl) (fun S'' r w3 hp => ?_)
  obtain ⟨hS'', rfl, d3, rfl⟩ := hp
  have hS'' := hS''.symm; subst hS''
  try walk_nrm
  repeat (first
      | refine r_end ?_ | refine r_skip ?_ | (refine r_region ?_; simp only [List.size_toArray, List.length_cons, List.length_nil, Nat.reduceAdd, Nat.zero_add, List.range, List.range.loop])
      | refine r_seq ?_
      | (refine r_op rfl rfl (by decide) (fun w₁ h₁ K hK => ?_); obtain ⟨dd, hdd⟩ := h₁; subst hdd; (try simp only [at_at', alloc_at']); go_simp
         refine hK _ _ ⟨fun e he => (by have hm := mem_listed he; simp [go_sem] at hm), ?_⟩; clear hK K; try walk_nrm))
  try simp only [at_at', alloc_at']
  refine r_callx (same17_calls (w := ((w2.alloc (.cells #[num 111, num 112, num 113] 3)).alloc (.cells #[num 7, num 1, num 8, num 9, num 2] 3)).at _) ((HB2.out.kept (grown_alloc (World.grownBy_alloc w2 _ none) _) fun k _ e => by cases e).rel ⟨_, rfl⟩) ((lit_at (HS2.out.up (by simp)) [7, 1, 8, 9, 2] (by simp) (w2.heap.size + 1) (by simp)).rel ⟨_, rfl⟩)) rfl rfl (by decide) rfl (by simp only [List.map_toArray, List.map_cons, List.map_nil]; rfl) (fun S'' r w3 hp => ?_)
  obtain ⟨hS'', rfl, d3, rfl⟩ := hp
  have hS'' := hS''.symm; subst hS''
  try walk_nrm
  repeat (first
      | refine r_end ?_ | refine r_skip ?_ | (refine r_region ?_; simp only [List.size_toArray, List.length_cons, List.length_nil, Nat.reduceAdd, Nat.zero_add, List.range, List.range.loop])
      | refine r_seq ?_
      | (refine r_op rfl rfl (by decide) (fun w₁ h₁ K hK => ?_); obtain ⟨dd, hdd⟩ := h₁; subst hdd; (try simp only [at_at', alloc_at']); go_simp
         refine hK _ _ ⟨fun e he => (by have hm := mem_listed he; simp [go_sem] at hm), ?_⟩; clear hK K; try walk_nrm))
  refine r_ret ?_
  refine fin0.out _ _ _ _ _ ?_ (grown_alloc (grown_alloc GW2.out _) _) fun fn hf => resultsC_tmp hf _
  intro l hl
  rcases HM.out l hl with h | ⟨n, h1, h2, h3⟩
  · exact .inl h
  · exact .inr ⟨n, h1, h2, by simp; omega⟩
end Go.Proofs.Ytdpagejckahkkaa.Net
