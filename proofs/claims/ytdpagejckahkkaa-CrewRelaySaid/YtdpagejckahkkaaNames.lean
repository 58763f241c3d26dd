/- CrewNames returns true: two numbers go along a row of one hand and come out with what is added, on every tape, whoever of the goroutines is picked when. -/
import Derived.Test.YtdpagejckahkkaaRelay5
import Derived.Test.YtdpagejckahkkaaRows
import Derived.Conc.LeavingOf
set_option linter.unusedSimpArgs false
namespace Go.Proofs.Ytdpagejckahkkaa
open Go Go.Conc Go.RowKit Net Go.ChangeShapes Go.WideShapes Go.ChangeAt

noncomputable def body3 : Code := Try.f3.body.getD .skip
/-- The two rows that are handed in. -/
def W3 (W : World) : World := (W.alloc (.cells #[.int .i64 1, .int .i64 2] 3)).alloc (.cells #[.int .i64 10] 3)
noncomputable def in3 (W : World) (d : Nat) : RIn := { W := (W3 W).at d, a0 := some ⟨W.heap.size, 0, none⟩, cap := 2, vs := [1, 2], a1 := some ⟨W.heap.size + 1, 0, none⟩, cap1 := 1, ys := [10] }
theorem in3_ok (W : World) (d : Nat) : (in3 W d).Ok (fun _ => False) where
  v j v e := by
    refine ⟨_, rfl, ?_⟩
    show (W3 W).cell? _ = _
    match j, e with
    | 0, e => cases e; simp [W3, go_sem, num, Addr.add]
    | 1, e => cases e; simp [W3, go_sem, num, Addr.add]
  a j v e := by
    refine ⟨_, rfl, ?_⟩
    show (W3 W).cell? _ = _
    match j, e with
    | 0, e => cases e; simp [W3, go_sem, num, Addr.add]
  vlen := by simp [in3]
  alen := by simp [in3]
  va ad h := by cases h; exact ⟨by show W.heap.size < (W3 W).heap.size; simp [W3]; omega, fun _ _ => id⟩
  aa ad h := by cases h; exact ⟨by show W.heap.size + 1 < (W3 W).heap.size; simp [W3], fun _ _ => id⟩
  new l h := h.elim

theorem e3 : relayL [1, 2] [10] = [11, 12] := by decide +kernel
theorem two (w : World) (b : Nat) (v : Value) (h : w.ownsRow b 3 1 v 2 [.int .i64 11, .int .i64 12]) : ∃ g cap, v = .slice (some ⟨g, 0, none⟩) 2 cap ∧ w.cell? ⟨g, 0, none⟩ = some (.int .i64 11) ∧ w.cell? ⟨g, 1, none⟩ = some (.int .i64 12) := by
  rcases h.2 with ⟨_, h⟩ | ⟨g, cap, cur, rfl, _⟩
  · cases h
  · exact ⟨g, cap, rfl, by rw [h.cellAt 0 (by omega)]; rfl, by rw [h.cellAt 1 (by omega)]; rfl⟩

/-- What the run leaves. -/
def Post3 (W : World) (v : Value) (w' : World) : Prop := v = .bool true ∧ Below W.heap.size W w'

set_option maxRecDepth 100000 in
theorem names_reach (W : World) : Net.Reach Try.prog (fun _ => False) (G ((base 3).at ⟨#[undef, undef, undef, undef, undef, undef, undef, undef, undef, undef, undef, undef, undef, undef, undef, undef, undef, undef, undef, undef, undef, undef], []⟩ [.code body3]) []) W (AtLast Try.prog (Post3 W)) := by
  simp only [body3, Try.f3, Option.getD_some]
  repeat (first
    | refine r_end ?_ | refine r_seq ?_ | refine r_skip ?_ | (refine r_region ?_; simp only [List.size_toArray, List.length_cons, List.length_nil, Nat.reduceAdd, Nat.zero_add, List.range, List.range.loop])
    | (refine r_op rfl rfl (by decide) (fun w₁ h₁ K hK => ?_); obtain ⟨dd, hdd⟩ := h₁; subst hdd; (try simp only [at_at', alloc_at', setCell_at']); go_simp
       refine hK _ _ ⟨fun e he => (by have hm := mem_listed he; simp [go_sem] at hm), ?_⟩; clear hK K; try walk_nrm))
  try simp only [at_at', alloc_at']
  change Net.Reach Try.prog (fun _ => False) _ ((W3 W).at dd) _
  refine r_callx (relay_calls (in3 W dd) (in3_ok W dd)) rfl rfl (by decide) rfl (by simp only [List.map_toArray, List.map_cons, List.map_nil]; rfl) (fun S' v w' hp => ?_)
  obtain ⟨rfl, hown, hbelow⟩ := hp
  have hown : w'.ownsRow ((W3 W).at dd).heap.size 3 1 v (relayL [1, 2] [10]).length ((relayL [1, 2] [10]).map num) := hown
  rw [e3] at hown
  obtain ⟨g, cap, rfl, h0, h1⟩ := two _ _ _ hown
  have hlow : Below W.heap.size W w' := by
    have h3 : Below W.heap.size W (W3 W) := ((Below.refl _ W).alloc (Nat.le_refl _) _).alloc (by simp) _
    exact ⟨hbelow.os.trans h3.os, hbelow.tape.trans h3.tape, hbelow.output.trans h3.output, Nat.le_trans h3.size hbelow.size, fun k hk => (hbelow.block k (Nat.lt_of_lt_of_le hk h3.size)).trans (h3.block k hk)⟩
  clear hown hbelow
  try walk_nrm
  repeat (first
    | refine r_end ?_ | refine r_seq ?_ | refine r_skip ?_ | (refine r_region ?_; simp only [List.size_toArray, List.length_cons, List.length_nil, Nat.reduceAdd, Nat.zero_add, List.range, List.range.loop])
    | (refine r_op rfl rfl (by decide) (fun w₁ h₁ K hK => ?_); obtain ⟨dd, hdd⟩ := h₁; subst hdd; (try simp only [at_at', alloc_at', setCell_at']); go_simp
       refine hK _ _ ⟨fun e he => (by have hm := mem_listed he; simp [go_sem, *] at hm; try (subst hm; exact evF_cell _ _ id)), ?_⟩; clear hK K; try walk_nrm))
  refine r_ret ?_
  refine .here ⟨rfl, fun w₁ r => ⟨.bool true, ?_, rfl, ?_⟩⟩
  · simp [G, stepG, unwind, doReturn, results, Frame.at, base, Try.func3, Try.f3, seen, GStep.after]
  · obtain ⟨d, rfl⟩ := r
    exact ⟨hlow.os, hlow.tape, hlow.output, hlow.size, hlow.block⟩

theorem names_run (W : World) : ∃ M last o w' t', runNT Try.prog (M + 1) (solo (G (Frame.enter Try.prog 3 #[] .normal) []) W) #[] = (.ended o w', t') ∧ runN Try.prog M (solo (G (Frame.enter Try.prog 3 #[] .normal) []) W) = .next last ∧
    step Try.prog last = .ended o w' ∧ Conc.Good Try.prog (Post3 W) last o w' t' := by
  have e : Frame.enter Try.prog 3 #[] .normal = (base 3).at ⟨#[undef, undef, undef, undef, undef, undef, undef, undef, undef, undef, undef, undef, undef, undef, undef, undef, undef, undef, undef, undef, undef, undef], []⟩ [.code body3] := by
    simp [Frame.enter, Frame.at, Try.func3, base, body3, Try.f3]
    rfl
  rw [e]
  exact (names_reach W).ends (stands_first _ _)

theorem try_own : ownKnob Try.prog.godebug = none := by kernel_rfl

set_option maxRecDepth 100000 in
theorem names_lifted (os : Os) (started : os.Started) (H : Type) (enc : TypeId × Value → H) :
    ReturnsInLeavingWide {} Try.checked os 3 .any (Rows.crewNamesSpec.pre6 enc Try.prog Try.f3 Rows.crewNamesRow.domain false) (Rows.crewNamesSpec.post enc Try.prog Try.f3 false true false false) := by
  refine returnsInLeavingWide_of_change_sized (C := Try.checked) try_own started Try.func3
    (ChangeSpec.witness6 (enc := enc) (C := Try.checked) false ⟨#[], #[], []⟩ 8 (by kernel_rfl) (by kernel_rfl) (by kernel_rfl) (by kernel_rfl)) ?_
  intro W base args ds gs before hval0 hW _ _ _
  have hW' := hW
  obtain ⟨p, q, hA0, hV, rfl, _, _⟩ := hW
  have hA : DataW.TrodAll enc Try.prog W 0 (fun _ => true) true Try.f3.params.toList args.toList ds p := hA0
  rw [Try.params3] at hA
  obtain ⟨rfl, rfl, rfl⟩ := trodAll_none hA
  obtain ⟨rfl, rfl⟩ := trodVars_none hV
  obtain ⟨M, last, o, w', t', r1, r2, r3, r4⟩ := names_run W
  refine ⟨M, last, o, w', t', r1, r2, r3, r4.mono fun v hF => ?_⟩
  obtain ⟨rfl, hbelow⟩ : Post3 W v w' := hF
  exact ⟨_, _, _, [], _, [], hW', trodAll_mk1 (shut_bool Try.underlying4 true), trodAll_mk0, rfl, hbelow.frame _, fun h => by cases h⟩

/-- THE STATEMENT. -/
theorem crew_names : Rows.CrewNamesSaid :=
  OpenClaim.holds_of_wide_leaving 3 Try.f3 rfl rfl rfl rfl rfl rfl rfl ⟨rfl, rfl, rfl, rfl, rfl⟩ rfl rfl rfl rfl rfl (by kernel_rfl) Try.func3 (by kernel_rfl)
    (of_decide_eq_true (by kernel_rfl)) (by unfold Func.isWrapper; first | (rw [if_pos (by decide +kernel)]; kernel_rfl) | (rw [if_neg (by decide +kernel)]; exact ⟨rfl, rfl⟩))
    (fun os started H enc _ => names_lifted os started H enc)

#print axioms crew_names
end Go.Proofs.Ytdpagejckahkkaa
