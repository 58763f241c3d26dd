/- CrewParts' first loop: the parts are made, a row a size. · THE PLAIN LAW of CrewParts: of each part Merge takes a beginning, in its order, as many as there are turns of it, as far as it goes. · CrewParts' second loop: each number that came is the next of its part. -/
import Derived.Test.YtdpagejckahkkaaPartsBase
import Derived.Test.YtdpagejckahkkaaHold
import Derived.Test.YtdpagejckahkkaaSeqG
set_option linter.unusedSimpArgs false
set_option linter.unusedVariables false
set_option maxRecDepth 100000
namespace Go.Proofs.Ytdpagejckahkkaa.Net
open Go Go.Conc Go.RowKit

noncomputable def body7 : Code := Try.f7.body.getD .skip
noncomputable def tail7 : Nat → Code
  | 0 => body7
  | n + 1 => match tail7 n with | .seq _ r => r | _ => .skip
noncomputable def L7a : Code := match tail7 4 with | .seq (.seq _ (.block _ (.loop c))) _ => c | _ => .skip
noncomputable def in7a : Code := match L7a with | .seq _ (.seq (.block _ c) _) => c | _ => .skip
noncomputable def post7a : Code := match L7a with | .seq _ (.seq _ c) => c | _ => .skip
noncomputable def L7k : Code := match in7a with | .seq _ (.seq (.seq _ (.block _ (.loop c))) _) => c | _ => .skip
noncomputable def r13c : Code := match in7a with | .seq _ (.seq _ c) => c | _ => .skip

/-- The numbers of part i, k of them. -/
def rowL (k i : Nat) : List Int := (List.range k).map fun (j : Nat) => 64 * (j : Int) + (i : Int)
theorem rowL_length (k i : Nat) : (rowL k i).length = k := by simp [rowL]
theorem rowL_succ (k i : Nat) : rowL (k + 1) i = rowL k i ++ [64 * (k : Int) + (i : Int)] := by simp [rowL, List.range_succ]

section
variable {S : Loc → Prop} {cs : List Frame} {X : (Loc → Prop) → Goroutine → World → Prop} {a0 : Option Addr} {ca n : Nat} {vt P : Value}
set_option maxHeartbeats 8000000 in
theorem row_loop {W : World} {ad : Addr} {i m : Nat} {z : Int} (hi : i < n) (hi64 : i < 64) (hS : SL S W) (hz : InR z) (hm : z % 40 = (m : Int)) (hc : W.cell? (ad.add i) = some (num z)) (hclear : ∀ x : Addr, x.block = ad.block → ¬ S (.cell x))
    (h : ∀ (q : Value) (w : World) (j2 j3 j10 j11 j12 j13 j14 j15 j16 j17 j18 j19 j20 j21 j22 j23 j24 j25 j26 j27 j28 j29 j30 j31 j32 j33 j34 j35 j36 j37 j38 j39 j40 j41 j42 j43 j44 j45 j46 j47 j48 j49 j50 j51 j52 j53 j54 j55 j56 j57 j58 j59 j60 j61 j62 j63 j64 j65 j66 j67 j68 j69 j70 j71 j72 j73 j74 j75 j76 j77 j78 j79 j80 j81 j82 j83 j84 j85 j86 j87 j88 j89 j90 j91 j92 j93 j94 j95 j96 j97 j98 j99 j100 j101 j102 j103 j104 j105 j106 j107 j108 j109 j110 j111 j112 j113 j114 j115 j116 j117 j118 j119 j120 j121 j122 j123 j124 j125 j126 j127 j128 j129 j130 j131 j132 j133 j134 j135 j136 : Value) (d : Nat), w.ownsRow W.heap.size 3 1 q m ((rowL m i).map num) → W.grownBy w none → Reach Try.prog S (G ((base 7).at ⟨#[.slice (some ad) n ca, vt, j2, j3, .bool false, .bool true, P, num i, q, num m, j10, j11, j12, j13, j14, j15, j16, j17, j18, j19, j20, j21, j22, j23, j24, j25, j26, j27, j28, j29, j30, j31, j32, j33, j34, j35, j36, j37, j38, j39, j40, j41, j42, j43, j44, j45, j46, j47, j48, j49, j50, j51, j52, j53, j54, j55, j56, j57, j58, j59, j60, j61, j62, j63, j64, j65, j66, j67, j68, j69, j70, j71, j72, j73, j74, j75, j76, j77, j78, j79, j80, j81, j82, j83, j84, j85, j86, j87, j88, j89, j90, j91, j92, j93, j94, j95, j96, j97, j98, j99, j100, j101, j102, j103, j104, j105, j106, j107, j108, j109, j110, j111, j112, j113, j114, j115, j116, j117, j118, j119, j120, j121, j122, j123, j124, j125, j126, j127, j128, j129, j130, j131, j132, j133, j134, j135, j136], []⟩ [.code r13c, .inBlock 1, .code post7a, .inLoop L7a, .inBlock 0, .code (tail7 5)]) cs) (w.at d) X) :
    ∀ (c k : Nat) (w : World) (q : Value), k + c = m → w.ownsRow W.heap.size 3 1 q k ((rowL k i).map num) → W.grownBy w none → ∀ (j2 j3 j10 j11 j12 j13 j14 j15 j16 j17 j18 j19 j20 j21 j22 j23 j24 j25 j26 j27 j28 j29 j30 j31 j32 j33 j34 j35 j36 j37 j38 j39 j40 j41 j42 j43 j44 j45 j46 j47 j48 j49 j50 j51 j52 j53 j54 j55 j56 j57 j58 j59 j60 j61 j62 j63 j64 j65 j66 j67 j68 j69 j70 j71 j72 j73 j74 j75 j76 j77 j78 j79 j80 j81 j82 j83 j84 j85 j86 j87 j88 j89 j90 j91 j92 j93 j94 j95 j96 j97 j98 j99 j100 j101 j102 j103 j104 j105 j106 j107 j108 j109 j110 j111 j112 j113 j114 j115 j116 j117 j118 j119 j120 j121 j122 j123 j124 j125 j126 j127 j128 j129 j130 j131 j132 j133 j134 j135 j136 : Value) (d : Nat), Reach Try.prog S (G ((base 7).at ⟨#[.slice (some ad) n ca, vt, j2, j3, .bool false, .bool true, P, num i, q, num k, j10, j11, j12, j13, j14, j15, j16, j17, j18, j19, j20, j21, j22, j23, j24, j25, j26, j27, j28, j29, j30, j31, j32, j33, j34, j35, j36, j37, j38, j39, j40, j41, j42, j43, j44, j45, j46, j47, j48, j49, j50, j51, j52, j53, j54, j55, j56, j57, j58, j59, j60, j61, j62, j63, j64, j65, j66, j67, j68, j69, j70, j71, j72, j73, j74, j75, j76, j77, j78, j79, j80, j81, j82, j83, j84, j85, j86, j87, j88, j89, j90, j91, j92, j93, j94, j95, j96, j97, j98, j99, j100, j101, j102, j103, j104, j105, j106, j107, j108, j109, j110, j111, j112, j113, j114, j115, j116, j117, j118, j119, j120, j121, j122, j123, j124, j125, j126, j127, j128, j129, j130, j131, j132, j133, j134, j135, j136], []⟩ [.code L7k, .inLoop L7k, .inBlock 2, .code r13c, .inBlock 1, .code post7a, .inLoop L7a, .inBlock 0, .code (tail7 5)]) cs) (w.at d) X := by
  intro c
  induction c with
  | zero =>
    intro k w q hk hown hg j2 j3 j10 j11 j12 j13 j14 j15 j16 j17 j18 j19 j20 j21 j22 j23 j24 j25 j26 j27 j28 j29 j30 j31 j32 j33 j34 j35 j36 j37 j38 j39 j40 j41 j42 j43 j44 j45 j46 j47 j48 j49 j50 j51 j52 j53 j54 j55 j56 j57 j58 j59 j60 j61 j62 j63 j64 j65 j66 j67 j68 j69 j70 j71 j72 j73 j74 j75 j76 j77 j78 j79 j80 j81 j82 j83 j84 j85 j86 j87 j88 j89 j90 j91 j92 j93 j94 j95 j96 j97 j98 j99 j100 j101 j102 j103 j104 j105 j106 j107 j108 j109 j110 j111 j112 j113 j114 j115 j116 j117 j118 j119 j120 j121 j122 j123 j124 j125 j126 j127 j128 j129 j130 j131 j132 j133 j134 j135 j136 d
    obtain rfl : k = m := by omega
    have hi' : (i : Int) < (n : Int) := by omega
    have hcw : w.cell? (ad.add i) = some (num z) := hg.cell hc (by simp)
    have h := fun j2 j3 j10 j11 j12 j13 j14 j15 j16 j17 j18 j19 j20 j21 j22 j23 j24 j25 j26 j27 j28 j29 j30 j31 j32 j33 j34 j35 j36 j37 j38 j39 j40 j41 j42 j43 j44 j45 j46 j47 j48 j49 j50 j51 j52 j53 j54 j55 j56 j57 j58 j59 j60 j61 j62 j63 j64 j65 j66 j67 j68 j69 j70 j71 j72 j73 j74 j75 j76 j77 j78 j79 j80 j81 j82 j83 j84 j85 j86 j87 j88 j89 j90 j91 j92 j93 j94 j95 j96 j97 j98 j99 j100 j101 j102 j103 j104 j105 j106 j107 j108 j109 j110 j111 j112 j113 j114 j115 j116 j117 j118 j119 j120 j121 j122 j123 j124 j125 j126 j127 j128 j129 j130 j131 j132 j133 j134 j135 j136 d => h q w j2 j3 j10 j11 j12 j13 j14 j15 j16 j17 j18 j19 j20 j21 j22 j23 j24 j25 j26 j27 j28 j29 j30 j31 j32 j33 j34 j35 j36 j37 j38 j39 j40 j41 j42 j43 j44 j45 j46 j47 j48 j49 j50 j51 j52 j53 j54 j55 j56 j57 j58 j59 j60 j61 j62 j63 j64 j65 j66 j67 j68 j69 j70 j71 j72 j73 j74 j75 j76 j77 j78 j79 j80 j81 j82 j83 j84 j85 j86 j87 j88 j89 j90 j91 j92 j93 j94 j95 j96 j97 j98 j99 j100 j101 j102 j103 j104 j105 j106 j107 j108 j109 j110 j111 j112 j113 j114 j115 j116 j117 j118 j119 j120 j121 j122 j123 j124 j125 j126 j127 j128 j129 j130 j131 j132 j133 j134 j135 j136 d hown hg
    have H := Lib.hid h
    have HC := Lib.hid ((pick_calls (S := S) (w := w) (k := z) (n := 40) (by omega) (by omega) hz).mono (Post' := fun S' v w' => S' = S ∧ v = .int .i64 (k : Int) ∧ AtRel w w') fun S' v w' hp => ⟨hp.1, by rw [hp.2.1, hm], hp.2.2⟩)
    clear h hown hg hc hm hS hz
    simp only [tail7, body7, L7a, in7a, post7a, L7k, r13c, Try.f7, Option.getD_some, num] at hcw ⊢
    repeat (first
      | refine r_end ?_ | refine r_skip ?_ | (refine r_region ?_; simp only [List.size_toArray, List.length_cons, List.length_nil, Nat.reduceAdd, Nat.zero_add, List.range, List.range.loop])
      | refine r_seq ?_ | refine r_block ?_ | refine r_inBlock ?_
      | (refine r_op rfl rfl (by decide) (fun w₁ h₁ K hK => ?_); obtain ⟨dd, hdd⟩ := h₁; subst hdd; (try simp only [at_at', alloc_at']); go_simp
         refine hK _ _ ⟨fun e he => (by have hm := mem_listed he; clear hK he; simp [go_sem, *] at hm; first | done | (subst hm; exact evF_cell _ _ (hclear _ (addBlk' _ _)))), ?_⟩; clear hK K; try walk_nrm))
    refine r_callx (HC.out.at ⟨_, rfl⟩) rfl rfl (by decide) rfl (by simp only [List.map_toArray, List.map_cons, List.map_nil]; rfl) (fun S' v w' hp => ?_)
    obtain ⟨hS', rfl, d', rfl⟩ := hp
    have hS' := hS'.symm; subst hS'
    try walk_nrm
    repeat (first
      | refine r_end ?_ | refine r_skip ?_ | (refine r_region ?_; simp only [List.size_toArray, List.length_cons, List.length_nil, Nat.reduceAdd, Nat.zero_add, List.range, List.range.loop])
      | refine r_seq ?_ | refine r_block ?_ | refine r_inBlock ?_
      | (refine r_op rfl rfl (by decide) (fun w₁ h₁ K hK => ?_); obtain ⟨dd, hdd⟩ := h₁; subst hdd; (try simp only [at_at', alloc_at']); go_simp
         refine hK _ _ ⟨fun e he => (by have hm := mem_listed he; clear hK he; simp [go_sem, *] at hm; first | done | (subst hm; exact evF_cell _ _ (hclear _ (addBlk' _ _)))), ?_⟩; clear hK K; try walk_nrm))
    refine r_cond (t := false) (by simp [Act.eval]) ?_; simp only [if_true, if_false, Bool.false_eq_true, ↓reduceIte]
    refine r_exit rfl ?_
    have l := H.out
    simp only [tail7, body7, L7a, in7a, post7a, L7k, r13c, Try.f7, Option.getD_some, num] at l
    exact l _ _ _ _ _ _ _ _ _ _ _ _ _ _ _ _ _ _ _ _ _ _ _ _ _ _ _ _ _ _ _ _ _ _ _ _ _ _ _ _ _ _ _ _ _ _ _ _ _ _ _ _ _ _ _ _ _ _ _ _ _ _ _ _ _ _ _ _ _ _ _ _ _ _ _ _ _ _ _ _ _ _ _ _ _ _ _ _ _ _ _ _ _ _ _ _ _ _ _ _ _ _ _ _ _ _ _ _ _ _ _ _ _ _ _ _ _ _ _ _ _ _ _ _ _ _ _ _ _ _
  | succ c ih =>
    intro k w q hk hown hg j2 j3 j10 j11 j12 j13 j14 j15 j16 j17 j18 j19 j20 j21 j22 j23 j24 j25 j26 j27 j28 j29 j30 j31 j32 j33 j34 j35 j36 j37 j38 j39 j40 j41 j42 j43 j44 j45 j46 j47 j48 j49 j50 j51 j52 j53 j54 j55 j56 j57 j58 j59 j60 j61 j62 j63 j64 j65 j66 j67 j68 j69 j70 j71 j72 j73 j74 j75 j76 j77 j78 j79 j80 j81 j82 j83 j84 j85 j86 j87 j88 j89 j90 j91 j92 j93 j94 j95 j96 j97 j98 j99 j100 j101 j102 j103 j104 j105 j106 j107 j108 j109 j110 j111 j112 j113 j114 j115 j116 j117 j118 j119 j120 j121 j122 j123 j124 j125 j126 j127 j128 j129 j130 j131 j132 j133 j134 j135 j136 d
    have hi' : (i : Int) < (n : Int) := by omega
    have hkm : k < m := by omega
    have hk40 : m < 40 := by omega
    have hkm' : (k : Int) < (m : Int) := by omega
    have ew : IntKind.i64.wrap ((k : Int) + 1) = ((k + 1 : Nat) : Int) := by rw [IntKind.wrap_i64]; omega
    have e1 : IntKind.i64.wrap (64 * (k : Int)) = 64 * (k : Int) := by rw [IntKind.wrap_i64]; omega
    have e2 : IntKind.i64.wrap (64 * (k : Int) + (i : Int)) = 64 * (k : Int) + (i : Int) := by rw [IntKind.wrap_i64]; omega
    have hcw : w.cell? (ad.add i) = some (num z) := hg.cell hc (by simp)
    have HC := Lib.hid ((pick_calls (S := S) (w := w) (k := z) (n := 40) (by omega) (by omega) hz).mono (Post' := fun S' v w' => S' = S ∧ v = .int .i64 (m : Int) ∧ AtRel w w') fun S' v w' hp => ⟨hp.1, by rw [hp.2.1, hm], hp.2.2⟩)
    have IH := Lib.hid @ih
    have HOWN := Lib.hid hown
    have HG := Lib.hid hg
    have HS := Lib.hid hS
    clear ih hown hg hc hm hS hz h
    simp only [tail7, body7, L7a, in7a, post7a, L7k, r13c, Try.f7, Option.getD_some, num] at hcw ⊢
    repeat (first
      | refine r_end ?_ | refine r_skip ?_ | (refine r_region ?_; simp only [List.size_toArray, List.length_cons, List.length_nil, Nat.reduceAdd, Nat.zero_add, List.range, List.range.loop])
      | refine r_seq ?_ | refine r_block ?_ | refine r_inBlock ?_
      | (refine r_op rfl rfl (by decide) (fun w₁ h₁ K hK => ?_); obtain ⟨dd, hdd⟩ := h₁; subst hdd; (try simp only [at_at', alloc_at']); go_simp
         refine hK _ _ ⟨fun e he => (by have hm := mem_listed he; clear hK he; simp [go_sem, *] at hm; first | done | (subst hm; exact evF_cell _ _ (hclear _ (addBlk' _ _)))), ?_⟩; clear hK K; try walk_nrm))
    refine r_callx (HC.out.at ⟨_, rfl⟩) rfl rfl (by decide) rfl (by simp only [List.map_toArray, List.map_cons, List.map_nil]; rfl) (fun S' v w' hp => ?_)
    obtain ⟨hS', rfl, d', rfl⟩ := hp
    have hS' := hS'.symm; subst hS'
    clear HC
    try walk_nrm
    repeat (first
      | refine r_end ?_ | refine r_skip ?_ | (refine r_region ?_; simp only [List.size_toArray, List.length_cons, List.length_nil, Nat.reduceAdd, Nat.zero_add, List.range, List.range.loop])
      | (refine r_cond (t := true) (by simp [Act.eval, hkm, hkm']) ?_; simp only [if_true, if_false, Bool.false_eq_true, ↓reduceIte])
      | refine r_seq ?_ | refine r_block ?_ | refine r_inBlock ?_
      | (refine r_op rfl rfl (by decide) (fun w₁ h₁ K hK => ?_); obtain ⟨dd, hdd⟩ := h₁; subst hdd; (try simp only [at_at', alloc_at']); go_simp
         refine hK _ _ ⟨fun e he => (by have hm := mem_listed he; clear hK he; simp [go_sem, *] at hm; first | done | (subst hm; exact evF_cell _ _ (hclear _ (addBlk' _ _)))), ?_⟩; clear hK K; try walk_nrm))
    try simp only [at_at', alloc_at']
    have ho : (w.alloc (.cells #[.int .i64 (64 * (k : Int) + (i : Int))] 3)).ownsRow W.heap.size 3 1 q k ((rowL k i).map num) := HOWN.out.kept (World.grownBy_alloc w _ none) (by cases q.ownBlock <;> simp)
    have hcell : ∀ (j : Nat) u, [Value.int .i64 (64 * (k : Int) + (i : Int))][j]? = some u → (w.alloc (.cells #[.int .i64 (64 * (k : Int) + (i : Int))] 3)).cell? ((⟨w.heap.size, 0, none⟩ : Addr).add j) = some u := fun j u hj => by
      cases j with
      | zero =>
        cases hj
        have e := World.alloc_heap_new w (.cells #[.int .i64 (64 * (k : Int) + (i : Int))] 3)
        simp only [Addr.add, if_true, ↓reduceIte, World.cell?]
        rw [e]
        rfl
      | succ j => simp at hj
    have hgs := HG.out.size
    refine r_append (.tmp 37) (.tmp 42) (base := W.heap.size) (news := [.int .i64 (64 * (k : Int) + (i : Int))]) rfl rfl (by decide) rfl rfl rfl (ho.kept (rel_grown ⟨_, rfl⟩ none) (by cases q.ownBlock <;> simp)) rfl hcell (fun v hv => by rw [List.mem_singleton.1 hv]; rfl) (by omega) (Nat.le_trans HG.out.size (World.grownBy_alloc w (.cells #[.int .i64 (64 * (k : Int) + (i : Int))] 3) none).size) (fun z hz => HS.out.new z (by have hz : z.block = w.heap.size := hz; omega)) HS.out.new (fun q' w2 hq' g2 _ _ => ?_)
    have HQ := Lib.hid (show w2.ownsRow W.heap.size 3 1 q' (k + 1) ((rowL (k + 1) i).map num) by rw [rowL_succ, List.map_append]; exact hq')
    have G2 := Lib.hid (show W.grownBy w2 none from ⟨g2.os.trans HG.out.os, g2.tape.trans HG.out.tape, g2.output.trans HG.out.output, Nat.le_trans (Nat.le_trans HG.out.size (World.grownBy_alloc w (.cells #[.int .i64 (64 * (k : Int) + (i : Int))] 3) none).size) g2.size,
      fun b hb _ => (g2.block b (Nat.lt_of_lt_of_le hb (Nat.le_trans HG.out.size (World.grownBy_alloc w (.cells #[.int .i64 (64 * (k : Int) + (i : Int))] 3) none).size)) (fun e => by have := (HOWN.out.lt b e.symm).1; omega)).trans (((World.grownBy_alloc w (.cells #[.int .i64 (64 * (k : Int) + (i : Int))] 3) none).block b (Nat.lt_of_lt_of_le hb HG.out.size) (by simp)).trans (HG.out.block b hb (by simp)))⟩)
    clear hq' g2 ho hcell hcw HG HOWN e1 e2 hgs
    try walk_nrm
    repeat (first
      | refine r_end ?_ | refine r_skip ?_ | (refine r_region ?_; simp only [List.size_toArray, List.length_cons, List.length_nil, Nat.reduceAdd, Nat.zero_add, List.range, List.range.loop])
      | refine r_seq ?_ | refine r_block ?_ | refine r_inBlock ?_
      | (refine r_op rfl rfl (by decide) (fun w₁ h₁ K hK => ?_); obtain ⟨dd, hdd⟩ := h₁; subst hdd; (try simp only [at_at', alloc_at']); go_simp
         refine hK _ _ ⟨fun e he => (by have hm := mem_listed he; clear hK he; simp [go_sem, *] at hm; first | done | (subst hm; exact evF_cell _ _ (hclear _ (addBlk' _ _)))), ?_⟩; clear hK K; try walk_nrm))
    refine r_inLoop ?_
    have l := IH.out (k + 1) w2 q' (by omega) HQ.out G2.out
    simp only [tail7, body7, L7a, in7a, post7a, L7k, r13c, Try.f7, Option.getD_some, num] at l
    exact l _ _ _ _ _ _ _ _ _ _ _ _ _ _ _ _ _ _ _ _ _ _ _ _ _ _ _ _ _ _ _ _ _ _ _ _ _ _ _ _ _ _ _ _ _ _ _ _ _ _ _ _ _ _ _ _ _ _ _ _ _ _ _ _ _ _ _ _ _ _ _ _ _ _ _ _ _ _ _ _ _ _ _ _ _ _ _ _ _ _ _ _ _ _ _ _ _ _ _ _ _ _ _ _ _ _ _ _ _ _ _ _ _ _ _ _ _ _ _ _ _ _ _ _ _ _ _ _ _ _
end

/-- The parts that are made of sizes. -/
def partsL (zs : List Int) : List (List Int) := (List.range zs.length).map fun (i : Nat) => rowL ((zs.getD i 0) % 40).toNat i
theorem partsL_length (zs : List Int) : (partsL zs).length = zs.length := by simp [partsL]
theorem partsL_get {zs : List Int} {i : Nat} {z : Int} (h : zs[i]? = some z) : (partsL zs)[i]? = some (rowL (z % 40).toNat i) := by
  have hi := (List.getElem?_eq_some_iff.1 h).1
  simp [partsL, List.getElem?_map, List.getElem?_range hi, List.getD, h]

section
variable {S : Loc → Prop} {cs : List Frame} {X : (Loc → Prop) → Goroutine → World → Prop} {a0 : Option Addr} {ca n : Nat} {vt : Value}
set_option maxHeartbeats 8000000 in
theorem parts_loop {W0 : World} {zs : List Int} (hn : zs.length = n) (hn64 : n ≤ 64) (hS : SL S W0) (hz : Held S W0 (.slice a0 n ca) zs) (hr : ∀ z ∈ zs, InR z)
    (h : ∀ (P : Value) (w : World) (j2 j3 j8 j9 j10 j11 j12 j13 j14 j15 j16 j17 j18 j19 j20 j21 j22 j23 j24 j25 j26 j27 j28 j29 j30 j31 j32 j33 j34 j35 j36 j37 j38 j39 j40 j41 j42 j43 j44 j45 j46 j47 j48 j49 j50 j51 j52 j53 j54 j55 j56 j57 j58 j59 j60 j61 j62 j63 j64 j65 j66 j67 j68 j69 j70 j71 j72 j73 j74 j75 j76 j77 j78 j79 j80 j81 j82 j83 j84 j85 j86 j87 j88 j89 j90 j91 j92 j93 j94 j95 j96 j97 j98 j99 j100 j101 j102 j103 j104 j105 j106 j107 j108 j109 j110 j111 j112 j113 j114 j115 j116 j117 j118 j119 j120 j121 j122 j123 j124 j125 j126 j127 j128 j129 j130 j131 j132 j133 j134 j135 j136 : Value) (d : Nat), Cop W0 (partsL zs) n P w → Reach Try.prog S (G ((base 7).at ⟨#[.slice a0 n ca, vt, j2, j3, .bool false, .bool true, P, num n, j8, j9, j10, j11, j12, j13, j14, j15, j16, j17, j18, j19, j20, j21, j22, j23, j24, j25, j26, j27, j28, j29, j30, j31, j32, j33, j34, j35, j36, j37, j38, j39, j40, j41, j42, j43, j44, j45, j46, j47, j48, j49, j50, j51, j52, j53, j54, j55, j56, j57, j58, j59, j60, j61, j62, j63, j64, j65, j66, j67, j68, j69, j70, j71, j72, j73, j74, j75, j76, j77, j78, j79, j80, j81, j82, j83, j84, j85, j86, j87, j88, j89, j90, j91, j92, j93, j94, j95, j96, j97, j98, j99, j100, j101, j102, j103, j104, j105, j106, j107, j108, j109, j110, j111, j112, j113, j114, j115, j116, j117, j118, j119, j120, j121, j122, j123, j124, j125, j126, j127, j128, j129, j130, j131, j132, j133, j134, j135, j136], []⟩ [.code (tail7 5)]) cs) (w.at d) X) :
    ∀ (k i : Nat) (w : World) (P : Value), i + k = n → Cop W0 (partsL zs) i P w → ∀ (j2 j3 j8 j9 j10 j11 j12 j13 j14 j15 j16 j17 j18 j19 j20 j21 j22 j23 j24 j25 j26 j27 j28 j29 j30 j31 j32 j33 j34 j35 j36 j37 j38 j39 j40 j41 j42 j43 j44 j45 j46 j47 j48 j49 j50 j51 j52 j53 j54 j55 j56 j57 j58 j59 j60 j61 j62 j63 j64 j65 j66 j67 j68 j69 j70 j71 j72 j73 j74 j75 j76 j77 j78 j79 j80 j81 j82 j83 j84 j85 j86 j87 j88 j89 j90 j91 j92 j93 j94 j95 j96 j97 j98 j99 j100 j101 j102 j103 j104 j105 j106 j107 j108 j109 j110 j111 j112 j113 j114 j115 j116 j117 j118 j119 j120 j121 j122 j123 j124 j125 j126 j127 j128 j129 j130 j131 j132 j133 j134 j135 j136 : Value) (d : Nat), Reach Try.prog S (G ((base 7).at ⟨#[.slice a0 n ca, vt, j2, j3, .bool false, .bool true, P, num i, j8, j9, j10, j11, j12, j13, j14, j15, j16, j17, j18, j19, j20, j21, j22, j23, j24, j25, j26, j27, j28, j29, j30, j31, j32, j33, j34, j35, j36, j37, j38, j39, j40, j41, j42, j43, j44, j45, j46, j47, j48, j49, j50, j51, j52, j53, j54, j55, j56, j57, j58, j59, j60, j61, j62, j63, j64, j65, j66, j67, j68, j69, j70, j71, j72, j73, j74, j75, j76, j77, j78, j79, j80, j81, j82, j83, j84, j85, j86, j87, j88, j89, j90, j91, j92, j93, j94, j95, j96, j97, j98, j99, j100, j101, j102, j103, j104, j105, j106, j107, j108, j109, j110, j111, j112, j113, j114, j115, j116, j117, j118, j119, j120, j121, j122, j123, j124, j125, j126, j127, j128, j129, j130, j131, j132, j133, j134, j135, j136], []⟩ [.code L7a, .inLoop L7a, .inBlock 0, .code (tail7 5)]) cs) (w.at d) X := by
  intro k
  induction k with
  | zero =>
    intro i w P hi hC j2 j3 j8 j9 j10 j11 j12 j13 j14 j15 j16 j17 j18 j19 j20 j21 j22 j23 j24 j25 j26 j27 j28 j29 j30 j31 j32 j33 j34 j35 j36 j37 j38 j39 j40 j41 j42 j43 j44 j45 j46 j47 j48 j49 j50 j51 j52 j53 j54 j55 j56 j57 j58 j59 j60 j61 j62 j63 j64 j65 j66 j67 j68 j69 j70 j71 j72 j73 j74 j75 j76 j77 j78 j79 j80 j81 j82 j83 j84 j85 j86 j87 j88 j89 j90 j91 j92 j93 j94 j95 j96 j97 j98 j99 j100 j101 j102 j103 j104 j105 j106 j107 j108 j109 j110 j111 j112 j113 j114 j115 j116 j117 j118 j119 j120 j121 j122 j123 j124 j125 j126 j127 j128 j129 j130 j131 j132 j133 j134 j135 j136 d
    obtain rfl : i = n := by omega
    have h := fun j2 j3 j8 j9 j10 j11 j12 j13 j14 j15 j16 j17 j18 j19 j20 j21 j22 j23 j24 j25 j26 j27 j28 j29 j30 j31 j32 j33 j34 j35 j36 j37 j38 j39 j40 j41 j42 j43 j44 j45 j46 j47 j48 j49 j50 j51 j52 j53 j54 j55 j56 j57 j58 j59 j60 j61 j62 j63 j64 j65 j66 j67 j68 j69 j70 j71 j72 j73 j74 j75 j76 j77 j78 j79 j80 j81 j82 j83 j84 j85 j86 j87 j88 j89 j90 j91 j92 j93 j94 j95 j96 j97 j98 j99 j100 j101 j102 j103 j104 j105 j106 j107 j108 j109 j110 j111 j112 j113 j114 j115 j116 j117 j118 j119 j120 j121 j122 j123 j124 j125 j126 j127 j128 j129 j130 j131 j132 j133 j134 j135 j136 d => h P w j2 j3 j8 j9 j10 j11 j12 j13 j14 j15 j16 j17 j18 j19 j20 j21 j22 j23 j24 j25 j26 j27 j28 j29 j30 j31 j32 j33 j34 j35 j36 j37 j38 j39 j40 j41 j42 j43 j44 j45 j46 j47 j48 j49 j50 j51 j52 j53 j54 j55 j56 j57 j58 j59 j60 j61 j62 j63 j64 j65 j66 j67 j68 j69 j70 j71 j72 j73 j74 j75 j76 j77 j78 j79 j80 j81 j82 j83 j84 j85 j86 j87 j88 j89 j90 j91 j92 j93 j94 j95 j96 j97 j98 j99 j100 j101 j102 j103 j104 j105 j106 j107 j108 j109 j110 j111 j112 j113 j114 j115 j116 j117 j118 j119 j120 j121 j122 j123 j124 j125 j126 j127 j128 j129 j130 j131 j132 j133 j134 j135 j136 d hC
    clear hC hz hr
    simp only [tail7, body7, L7a, in7a, post7a, L7k, r13c, Try.f7, Option.getD_some, num] at h ⊢
    refine r_seq ?_
    refine r_seq ?_
    (refine r_region ?_; simp only [List.size_toArray, List.length_cons, List.length_nil, Nat.reduceAdd, Nat.zero_add, List.range, List.range.loop])
    repeat (refine r_op rfl rfl (by decide) (fun w₁ h₁ K hK => ?_); obtain ⟨dd, hdd⟩ := h₁; subst hdd; (try simp only [at_at', alloc_at']); go_simp
            refine hK _ _ ⟨fun e he => (by have hm := mem_listed he; clear hK he; simp [go_sem] at hm), ?_⟩; clear hK K; try walk_nrm)
    refine r_end ?_
    refine r_cond (t := false) (by simp [Act.eval]) ?_; simp only [if_true, if_false, Bool.false_eq_true, ↓reduceIte]
    refine r_exit rfl ?_
    exact h _ _ _ _ _ _ _ _ _ _ _ _ _ _ _ _ _ _ _ _ _ _ _ _ _ _ _ _ _ _ _ _ _ _ _ _ _ _ _ _ _ _ _ _ _ _ _ _ _ _ _ _ _ _ _ _ _ _ _ _ _ _ _ _ _ _ _ _ _ _ _ _ _ _ _ _ _ _ _ _ _ _ _ _ _ _ _ _ _ _ _ _ _ _ _ _ _ _ _ _ _ _ _ _ _ _ _ _ _ _ _ _ _ _ _ _ _ _ _ _ _ _ _ _ _ _ _ _ _ _ _ _
  | succ k ih =>
    intro i w P hi hC j2 j3 j8 j9 j10 j11 j12 j13 j14 j15 j16 j17 j18 j19 j20 j21 j22 j23 j24 j25 j26 j27 j28 j29 j30 j31 j32 j33 j34 j35 j36 j37 j38 j39 j40 j41 j42 j43 j44 j45 j46 j47 j48 j49 j50 j51 j52 j53 j54 j55 j56 j57 j58 j59 j60 j61 j62 j63 j64 j65 j66 j67 j68 j69 j70 j71 j72 j73 j74 j75 j76 j77 j78 j79 j80 j81 j82 j83 j84 j85 j86 j87 j88 j89 j90 j91 j92 j93 j94 j95 j96 j97 j98 j99 j100 j101 j102 j103 j104 j105 j106 j107 j108 j109 j110 j111 j112 j113 j114 j115 j116 j117 j118 j119 j120 j121 j122 j123 j124 j125 j126 j127 j128 j129 j130 j131 j132 j133 j134 j135 j136 d
    have hlt : i < n := by omega
    have hlt' : (i : Int) < (n : Int) := by omega
    have ew : IntKind.i64.wrap ((i : Int) + 1) = ((i + 1 : Nat) : Int) := by rw [IntKind.wrap_i64]; omega
    obtain ⟨z, hzi⟩ : ∃ z, zs[i]? = some z := ⟨_, List.getElem?_eq_getElem (by omega)⟩
    have hzr : InR z := hr _ (List.mem_of_getElem? hzi)
    obtain ⟨m, hm⟩ := Int.eq_ofNat_of_zero_le (Int.emod_nonneg z (by omega : (40 : Int) ≠ 0))
    have hg0 := hC.1
    have hrow := partsL_get hzi
    have hmt : (z % 40).toNat = m := by omega
    rw [hmt] at hrow
    have hclear0 := hz.1
    obtain ⟨b0, cb, hb0, hcell, hclr, _⟩ := hz.1
    obtain ⟨e1, e2⟩ : b0 = a0 ∧ cb = ca := by cases hb0; exact ⟨rfl, rfl⟩
    subst e1 e2
    obtain ⟨ad, rfl, hc0⟩ := hcell i z hzi
    have hc : w.cell? (ad.add i) = some (num z) := hg0.cell hc0 (by simp)
    have hclear := hclr ad rfl
    have hSw : SL S w := hS.up hg0.size
    obtain ⟨hg, hs, hl, hown, h1, hrows⟩ := hC
    have HOWN := Lib.hid hown
    have HG := Lib.hid hg
    have HR := Lib.hid hrows
    have H1 := Lib.hid h1
    have HL := Lib.hid hl
    have HX := Lib.hid hrow
    have HS := Lib.hid hSw
    have hS' := hS.new
    have HSN := Lib.hid hS'
    clear hS'
    have IH := Lib.hid @ih
    have ROW := Lib.hid (fun hh => row_loop (cs := cs) (X := X) (ca := cb) (n := n) (vt := vt) (P := P) (i := i) (m := m) (z := z) hlt (by omega) hSw hzr hm hc hclear hh m 0 w (.slice none 0 0) (by omega) (World.ownsRow_nil _ _ _ _) (grown_refl w none))
    clear hz hr h ih hcell hclr hclear0 hc0 hc hb0 hown hg hrows h1 hl hrow hmt hm hzr hg0 hS hSw hzi
    simp only [tail7, body7, L7a, in7a, post7a, L7k, r13c, Try.f7, Option.getD_some, num]
    refine r_seq ?_
    refine r_seq ?_
    (refine r_region ?_; simp only [List.size_toArray, List.length_cons, List.length_nil, Nat.reduceAdd, Nat.zero_add, List.range, List.range.loop])
    repeat (refine r_op rfl rfl (by decide) (fun w₁ h₁ K hK => ?_); obtain ⟨dd, hdd⟩ := h₁; subst hdd; (try simp only [at_at', alloc_at']); go_simp
            refine hK _ _ ⟨fun e he => (by have hm := mem_listed he; clear hK he; simp [go_sem] at hm), ?_⟩; clear hK K; try walk_nrm)
    refine r_end ?_
    refine r_cond (t := true) (by simp [Act.eval, hlt, hlt']) ?_; simp only [if_true, if_false, Bool.false_eq_true, ↓reduceIte]
    refine r_skip ?_
    repeat (first
      | refine r_end ?_ | refine r_skip ?_ | (refine r_region ?_; simp only [List.size_toArray, List.length_cons, List.length_nil, Nat.reduceAdd, Nat.zero_add, List.range, List.range.loop])
      | refine r_seq ?_ | refine r_block ?_ | refine r_inBlock ?_
      | (refine r_op rfl rfl (by decide) (fun w₁ h₁ K hK => ?_); obtain ⟨dd, hdd⟩ := h₁; subst hdd; (try simp only [at_at', alloc_at']); go_simp
         refine hK _ _ ⟨fun e he => (by have hm := mem_listed he; clear hK he; simp [go_sem, *] at hm; first | done | (subst hm; exact evF_cell _ _ (hclear _ (addBlk' _ _)))), ?_⟩; clear hK K; try walk_nrm))
    refine r_loop ?_
    have l := ROW.out
    simp only [tail7, body7, L7a, in7a, post7a, L7k, r13c, Try.f7, Option.getD_some, num] at l
    refine l (fun q w1 j2 j3 j10 j11 j12 j13 j14 j15 j16 j17 j18 j19 j20 j21 j22 j23 j24 j25 j26 j27 j28 j29 j30 j31 j32 j33 j34 j35 j36 j37 j38 j39 j40 j41 j42 j43 j44 j45 j46 j47 j48 j49 j50 j51 j52 j53 j54 j55 j56 j57 j58 j59 j60 j61 j62 j63 j64 j65 j66 j67 j68 j69 j70 j71 j72 j73 j74 j75 j76 j77 j78 j79 j80 j81 j82 j83 j84 j85 j86 j87 j88 j89 j90 j91 j92 j93 j94 j95 j96 j97 j98 j99 j100 j101 j102 j103 j104 j105 j106 j107 j108 j109 j110 j111 j112 j113 j114 j115 j116 j117 j118 j119 j120 j121 j122 j123 j124 j125 j126 j127 j128 j129 j130 j131 j132 j133 j134 j135 j136 d hq g1 => ?_) _ _ _ _ _ _ _ _ _ _ _ _ _ _ _ _ _ _ _ _ _ _ _ _ _ _ _ _ _ _ _ _ _ _ _ _ _ _ _ _ _ _ _ _ _ _ _ _ _ _ _ _ _ _ _ _ _ _ _ _ _ _ _ _ _ _ _ _ _ _ _ _ _ _ _ _ _ _ _ _ _ _ _ _ _ _ _ _ _ _ _ _ _ _ _ _ _ _ _ _ _ _ _ _ _ _ _ _ _ _ _ _ _ _ _ _ _ _ _ _ _ _ _ _ _ _ _ _ _ _
    clear l ROW
    obtain ⟨u0, ul, uc, rfl⟩ : ∃ u0 ul uc, q = .slice u0 ul uc := by
      rcases hq.2 with ⟨rfl, _⟩ | ⟨_, _, _, rfl, _⟩ <;> exact ⟨_, _, _, rfl⟩
    have HU := Lib.hid hq
    have G1 := Lib.hid g1
    clear hq g1
    repeat (first
      | refine r_end ?_ | refine r_skip ?_ | (refine r_region ?_; simp only [List.size_toArray, List.length_cons, List.length_nil, Nat.reduceAdd, Nat.zero_add, List.range, List.range.loop])
      | refine r_seq ?_ | refine r_block ?_ | refine r_inBlock ?_
      | (refine r_op rfl rfl (by decide) (fun w₁ h₁ K hK => ?_); obtain ⟨dd, hdd⟩ := h₁; subst hdd; (try simp only [at_at', alloc_at']); go_simp
         refine hK _ _ ⟨fun e he => (by have hm := mem_listed he; clear hK he; simp [go_sem, *] at hm; first | done | (subst hm; exact evF_cell _ _ (hclear _ (addBlk' _ _)))), ?_⟩; clear hK K; try walk_nrm))
    try simp only [at_at', alloc_at']
    have hown1 : (w1.alloc (.cells #[.slice u0 ul uc] 22)).ownsRow W0.heap.size 22 1 P i hs := (HOWN.out.kept G1.out (by cases P.ownBlock <;> simp)).kept (World.grownBy_alloc w1 _ none) (by cases P.ownBlock <;> simp)
    have hcell : ∀ (j : Nat) v, [Value.slice u0 ul uc][j]? = some v → (w1.alloc (.cells #[.slice u0 ul uc] 22)).cell? ((⟨w1.heap.size, 0, none⟩ : Addr).add j) = some v := fun j v hj => by
      cases j with
      | zero =>
        cases hj
        have e := World.alloc_heap_new w1 (.cells #[.slice u0 ul uc] 22)
        simp only [Addr.add, if_true, ↓reduceIte, World.cell?]
        rw [e]
        rfl
      | succ j => simp at hj
    refine r_appendR (.tmp 44) (.tmp 46) (base := W0.heap.size) (news := [.slice u0 ul uc]) rfl rfl (by decide) rfl rfl rfl (hown1.kept (rel_grown ⟨_, rfl⟩ none) (by cases P.ownBlock <;> simp)) rfl hcell (fun v hv => by rw [List.mem_singleton.1 hv]; rfl) (by omega) (Nat.le_trans HG.out.size (Nat.le_trans G1.out.size (World.grownBy_alloc w1 (.cells #[.slice u0 ul uc] 22) none).size)) (fun z hz => HS.out.new z (by have hz : z.block = w1.heap.size := hz; have := G1.out.size; omega)) (fun z hz => HSN.out z (HOWN.out.lt _ hz).1) (fun P' w2 hp' g2 _ hb => ?_)
    have hp' : w2.ownsRow W0.heap.size 22 1 P' (i + 1) (hs ++ [.slice u0 ul uc]) := hp'
    have g2 : (w1.alloc (.cells #[.slice u0 ul uc] 22)).grownBy w2 P.ownBlock := ⟨g2.os, g2.tape, g2.output, g2.size, g2.block⟩
    have hb : P'.ownBlock = P.ownBlock ∨ (P'.ownBlock = some (w1.alloc (.cells #[.slice u0 ul uc] 22)).heap.size ∧ (w1.alloc (.cells #[.slice u0 ul uc] 22)).grownBy w2 none) := hb.imp id fun h => ⟨h.1, ⟨h.2.os, h.2.tape, h.2.output, h.2.size, h.2.block⟩⟩
    have hu : w1.ownsRow w.heap.size 3 1 (.slice u0 ul uc) (rowL m i).length ((rowL m i).map num) := by rw [rowL_length]; exact HU.out
    have HC := Lib.hid (Cop.more HG.out HL.out HOWN.out H1.out HR.out HX.out hu rfl G1.out _ hp' g2 hb)
    clear hu hp' g2 hb hown1 hcell HG HL HOWN H1 HR HX HU G1
    try walk_nrm
    repeat (first
      | refine r_end ?_ | refine r_skip ?_ | (refine r_region ?_; simp only [List.size_toArray, List.length_cons, List.length_nil, Nat.reduceAdd, Nat.zero_add, List.range, List.range.loop])
      | refine r_seq ?_ | refine r_block ?_ | refine r_inBlock ?_
      | (refine r_op rfl rfl (by decide) (fun w₁ h₁ K hK => ?_); obtain ⟨dd, hdd⟩ := h₁; subst hdd; (try simp only [at_at', alloc_at']); go_simp
         refine hK _ _ ⟨fun e he => (by have hm := mem_listed he; clear hK he; simp [go_sem, *] at hm; first | done | (subst hm; exact evF_cell _ _ (hclear _ (addBlk' _ _)))), ?_⟩; clear hK K; try walk_nrm))
    refine r_inLoop ?_
    have l := IH.out (i + 1) w2 P' (by omega) HC.out
    simp only [tail7, body7, L7a, in7a, post7a, L7k, r13c, Try.f7, Option.getD_some, num] at l
    exact l _ _ _ _ _ _ _ _ _ _ _ _ _ _ _ _ _ _ _ _ _ _ _ _ _ _ _ _ _ _ _ _ _ _ _ _ _ _ _ _ _ _ _ _ _ _ _ _ _ _ _ _ _ _ _ _ _ _ _ _ _ _ _ _ _ _ _ _ _ _ _ _ _ _ _ _ _ _ _ _ _ _ _ _ _ _ _ _ _ _ _ _ _ _ _ _ _ _ _ _ _ _ _ _ _ _ _ _ _ _ _ _ _ _ _ _ _ _ _ _ _ _ _ _ _ _ _ _ _ _ _ _
end
end Go.Proofs.Ytdpagejckahkkaa.Net

namespace Go.Proofs.Ytdpagejckahkkaa.Net
open Go Go.Conc Go.RowKit

/-- How many numbers of part p stand in a list. -/
def cntL (p : Nat) (l : List Int) : Nat := l.countP fun x => decide (x % 64 = (p : Int))
theorem cntL_snoc (p : Nat) (l : List Int) (x : Int) : cntL p (l ++ [x]) = cntL p l + if x % 64 = (p : Int) then 1 else 0 := by
  unfold cntL
  rw [List.countP_append, List.countP_singleton]
  simp

theorem rowL_get {m p c : Nat} {x : Int} (h : (rowL m p)[c]? = some x) : c < m ∧ x = 64 * (c : Int) + (p : Int) := by
  unfold rowL at h
  rw [List.getElem?_map, Option.map_eq_some_iff] at h
  obtain ⟨j, hj, rfl⟩ := h
  have hc : c < m := by have := (List.getElem?_eq_some_iff.1 hj).1; simpa using this
  rw [List.getElem?_range hc] at hj
  obtain rfl := Option.some.inj hj
  exact ⟨hc, rfl⟩
theorem partsL_row {zs : List Int} {p : Nat} {row : List Int} (h : (partsL zs)[p]? = some row) : ∃ m, m < 40 ∧ row = rowL m p := by
  have hp : p < zs.length := by have := (List.getElem?_eq_some_iff.1 h).1; rwa [partsL_length] at this
  rw [partsL_get (List.getElem?_eq_getElem hp)] at h
  exact ⟨_, by omega, (Option.some.inj h).symm⟩

/-- What holds of the first n turns. -/
def Begun (ps : List (List Int)) (L us : List Int) : Prop :=
  (∀ (p : Nat) (row : List Int), ps[p]? = some row → cntL p L = min (us.count (p : Int)) row.length) ∧
  ∀ (i : Nat) x, L[i]? = some x → ∃ (p : Nat) (row : List Int), ps[p]? = some row ∧ x % 64 = (p : Int) ∧ cntL p (L.take i) < row.length ∧ row[cntL p (L.take i)]? = some x

theorem Begun.step {zs ts : List Int} (h64 : zs.length ≤ 64) {n : Nat} (hn : n < ts.length) {L : List Int} (h : Begun (partsL zs) L (ts.take n)) : Begun (partsL zs) (L ++ (stepR (partsL zs) ts n).toList) (ts.take (n + 1)) := by
  obtain ⟨hA, hB⟩ := h
  have ht : ts[n]? = some ts[n] := List.getElem?_eq_getElem hn
  have htake : ts.take (n + 1) = ts.take n ++ [ts[n]] := by rw [List.take_add_one, ht]; rfl
  have hcount : ∀ p : Nat, (ts.take (n + 1)).count (p : Int) = (ts.take n).count (p : Int) + if ts[n] = (p : Int) then 1 else 0 := fun p => by
    rw [htake, List.count_append, List.count_singleton]
    simp only [beq_iff_eq]
  generalize hu : ts[n] = t at ht hcount
  unfold stepR
  rw [ht]
  simp only []
  by_cases hin : 0 ≤ t ∧ t < (partsL zs).length
  · rw [if_pos hin]
    obtain ⟨q, rfl⟩ := Int.eq_ofNat_of_zero_le hin.1
    have hq : q < (partsL zs).length := by omega
    have hrow : (partsL zs)[q]? = some (partsL zs)[q] := List.getElem?_eq_getElem hq
    have hgd : (partsL zs).getD ((q : Int)).toNat [] = (partsL zs)[q] := by simp [List.getD, hrow]
    rw [hgd]
    generalize (partsL zs)[q] = row at hrow
    cases hx : row[(ts.take n).count (q : Int)]? with
    | none =>
      have hge : row.length ≤ (ts.take n).count (q : Int) := List.getElem?_eq_none_iff.1 hx
      rw [Option.toList_none, List.append_nil]
      refine ⟨fun p r hp => ?_, hB⟩
      rw [hA p r hp, hcount p]
      by_cases hpq : (q : Int) = (p : Int)
      · obtain rfl : q = p := by omega
        rw [hrow] at hp
        obtain rfl := Option.some.inj hp
        rw [if_pos rfl]
        omega
      · rw [if_neg hpq, Nat.add_zero]
    | some x =>
      have hlt : (ts.take n).count (q : Int) < row.length := (List.getElem?_eq_some_iff.1 hx).1
      obtain ⟨m, _, rfl⟩ := partsL_row hrow
      obtain ⟨_, hxv⟩ := rowL_get hx
      have hq64 : q < 64 := by rw [partsL_length] at hq; omega
      have hmod : x % 64 = (q : Int) := by omega
      have hcq := hA q _ hrow
      refine ⟨fun p r hp => ?_, fun i y hy => ?_⟩
      · rw [Option.toList_some, cntL_snoc, hA p r hp, hcount p, hmod]
        by_cases hpq : (q : Int) = (p : Int)
        · obtain rfl : q = p := by omega
          rw [hrow] at hp
          obtain rfl := Option.some.inj hp
          rw [if_pos rfl]
          omega
        · rw [if_neg hpq]
          omega
      · rw [Option.toList_some] at hy ⊢
        rcases Nat.lt_or_ge i L.length with hi | hi
        · rw [List.getElem?_append_left hi] at hy
          rw [List.take_append_of_le_length (by omega)]
          exact hB i y hy
        · rw [List.getElem?_append_right hi] at hy
          obtain rfl : i = L.length := by
            rcases Nat.lt_or_ge (i - L.length) 1 with h | h
            · omega
            · rw [List.getElem?_eq_none (by simpa using h)] at hy; cases hy
          rw [Nat.sub_self] at hy
          obtain rfl := Option.some.inj hy
          rw [List.take_left]
          refine ⟨q, _, hrow, hmod, by omega, ?_⟩
          rw [hcq, Nat.min_eq_left (by omega)]
          exact hx
  · rw [if_neg hin, Option.toList_none, List.append_nil]
    refine ⟨fun p r hp => ?_, hB⟩
    have hp' := (List.getElem?_eq_some_iff.1 hp).1
    rw [hA p r hp, hcount p, if_neg (by omega), Nat.add_zero]

theorem parts_begun {zs : List Int} (h64 : zs.length ≤ 64) (ts : List Int) : Begun (partsL zs) (mergeR (partsL zs) ts) ts := by
  have gen : ∀ n, n ≤ ts.length → Begun (partsL zs) ((List.range n).filterMap (stepR (partsL zs) ts)) (ts.take n) := by
    intro n
    induction n with
    | zero => exact fun _ => ⟨fun p row _ => by simp [cntL], fun i x h => by simp at h⟩
    | succ n ih =>
      intro hn
      rw [steps_succ]
      exact Begun.step h64 (by omega) (ih (by omega))
  have h := gen ts.length (Nat.le_refl _)
  rw [List.take_length] at h
  unfold mergeR
  rw [if_neg (by rw [partsL_length]; omega)]
  exact h
end Go.Proofs.Ytdpagejckahkkaa.Net

namespace Go.Proofs.Ytdpagejckahkkaa.Net
open Go Go.Conc Go.RowKit

noncomputable def L7b : Code := match tail7 7 with | .seq (.seq _ (.block _ (.loop c))) _ => c | _ => .skip
noncomputable def in7b : Code := match L7b with | .seq _ (.seq (.block _ c) _) => c | _ => .skip
noncomputable def post7b : Code := match L7b with | .seq _ (.seq _ c) => c | _ => .skip
noncomputable def test7b : Code := match in7b with | .seq _ (.seq (.seq c _) _) => c | _ => .skip
noncomputable def rest7b : Code := match in7b with | .seq _ (.seq (.seq _ c) _) => c | _ => .skip

section
variable {S : Loc → Prop} {cs : List Frame} {X : (Loc → Prop) → Goroutine → World → Prop} {w : World} {n len cp cl rc i p c rl : Nat} {zs0 vt : Value}
set_option maxHeartbeats 16000000 in
/-- The test, whose order is drawn. -/
theorem parts_test {aa pd la rd : Addr} {x : Int} (hi : i < len) (hp : p < n) (hc : c < rl) (hA : w.cell? (aa.add p) = some (num (c : Int))) (hP : w.cell? (pd.add p) = some (.slice (some rd) rl rc)) (hL : w.cell? (la.add i) = some (num x)) (hR : w.cell? (rd.add c) = some (num x))
    (hAS : ∀ z : Addr, z.block = aa.block → ¬ S (.cell z)) (hPS : ∀ z : Addr, z.block = pd.block → ¬ S (.cell z)) (hLS : ∀ z : Addr, z.block = la.block → ¬ S (.cell z)) (hRS : ∀ z : Addr, z.block = rd.block → ¬ S (.cell z)) {k : List Item}
    (h : ∀ (j2 j3 j7 j8 j9 j14 j15 j16 j17 j18 j19 j20 j21 j22 j23 j24 j25 j26 j27 j28 j29 j30 j31 j32 j33 j34 j35 j36 j37 j38 j39 j40 j41 j42 j43 j44 j45 j46 j47 j48 j49 j50 j51 j52 j53 j54 j55 j56 j57 j58 j59 j60 j61 j62 j63 j64 j65 j66 j67 j68 j69 j70 j71 j72 j73 j74 j75 j76 j77 j78 j79 j80 j81 j82 j83 j84 j85 j86 j87 j88 j89 j90 j91 j92 j93 j94 j95 j96 j98 j99 j100 j101 j102 j103 j104 j105 j106 j107 j108 j109 j110 j111 j112 j113 j114 j115 j116 j117 j118 j119 j120 j121 j122 j123 j124 j125 j126 j127 j128 j129 j130 j131 j132 j133 j134 j135 j136 : Value) (d : Nat), Reach Try.prog S (G ((base 7).at ⟨#[zs0, vt, j2, j3, .bool false, .bool true, .slice (some pd) n cp, j7, j8, j9, .slice (some la) len cl, .slice (some aa) n n, num i, num p, j14, j15, j16, j17, j18, j19, j20, j21, j22, j23, j24, j25, j26, j27, j28, j29, j30, j31, j32, j33, j34, j35, j36, j37, j38, j39, j40, j41, j42, j43, j44, j45, j46, j47, j48, j49, j50, j51, j52, j53, j54, j55, j56, j57, j58, j59, j60, j61, j62, j63, j64, j65, j66, j67, j68, j69, j70, j71, j72, j73, j74, j75, j76, j77, j78, j79, j80, j81, j82, j83, j84, j85, j86, j87, j88, j89, j90, j91, j92, j93, j94, j95, j96, .bool false, j98, j99, j100, j101, j102, j103, j104, j105, j106, j107, j108, j109, j110, j111, j112, j113, j114, j115, j116, j117, j118, j119, j120, j121, j122, j123, j124, j125, j126, j127, j128, j129, j130, j131, j132, j133, j134, j135, j136], []⟩ k) cs) (w.at d) X) :
    ∀ (j2 j3 j7 j8 j9 j14 j15 j16 j17 j18 j19 j20 j21 j22 j23 j24 j25 j26 j27 j28 j29 j30 j31 j32 j33 j34 j35 j36 j37 j38 j39 j40 j41 j42 j43 j44 j45 j46 j47 j48 j49 j50 j51 j52 j53 j54 j55 j56 j57 j58 j59 j60 j61 j62 j63 j64 j65 j66 j67 j68 j69 j70 j71 j72 j73 j74 j75 j76 j77 j78 j79 j80 j81 j82 j83 j84 j85 j86 j87 j88 j89 j90 j91 j92 j93 j94 j95 j96 j97 j98 j99 j100 j101 j102 j103 j104 j105 j106 j107 j108 j109 j110 j111 j112 j113 j114 j115 j116 j117 j118 j119 j120 j121 j122 j123 j124 j125 j126 j127 j128 j129 j130 j131 j132 j133 j134 j135 j136 : Value) (d : Nat), Reach Try.prog S (G ((base 7).at ⟨#[zs0, vt, j2, j3, .bool false, .bool true, .slice (some pd) n cp, j7, j8, j9, .slice (some la) len cl, .slice (some aa) n n, num i, num p, j14, j15, j16, j17, j18, j19, j20, j21, j22, j23, j24, j25, j26, j27, j28, j29, j30, j31, j32, j33, j34, j35, j36, j37, j38, j39, j40, j41, j42, j43, j44, j45, j46, j47, j48, j49, j50, j51, j52, j53, j54, j55, j56, j57, j58, j59, j60, j61, j62, j63, j64, j65, j66, j67, j68, j69, j70, j71, j72, j73, j74, j75, j76, j77, j78, j79, j80, j81, j82, j83, j84, j85, j86, j87, j88, j89, j90, j91, j92, j93, j94, j95, j96, j97, j98, j99, j100, j101, j102, j103, j104, j105, j106, j107, j108, j109, j110, j111, j112, j113, j114, j115, j116, j117, j118, j119, j120, j121, j122, j123, j124, j125, j126, j127, j128, j129, j130, j131, j132, j133, j134, j135, j136], []⟩ (.code test7b :: k)) cs) (w.at d) X := by
  intro j2 j3 j7 j8 j9 j14 j15 j16 j17 j18 j19 j20 j21 j22 j23 j24 j25 j26 j27 j28 j29 j30 j31 j32 j33 j34 j35 j36 j37 j38 j39 j40 j41 j42 j43 j44 j45 j46 j47 j48 j49 j50 j51 j52 j53 j54 j55 j56 j57 j58 j59 j60 j61 j62 j63 j64 j65 j66 j67 j68 j69 j70 j71 j72 j73 j74 j75 j76 j77 j78 j79 j80 j81 j82 j83 j84 j85 j86 j87 j88 j89 j90 j91 j92 j93 j94 j95 j96 j97 j98 j99 j100 j101 j102 j103 j104 j105 j106 j107 j108 j109 j110 j111 j112 j113 j114 j115 j116 j117 j118 j119 j120 j121 j122 j123 j124 j125 j126 j127 j128 j129 j130 j131 j132 j133 j134 j135 j136 d
  have hi3 : (i : Int) < (len : Int) := by omega
  have hp3 : (p : Int) < (n : Int) := by omega
  have hc3 : (c : Int) < (rl : Int) := by omega
  have hp4 : ¬ ((n : Int) ≤ (p : Int)) := by omega
  have hc4 : ¬ ((rl : Int) ≤ (c : Int)) := by omega
  have hp5 : ¬ (n ≤ p) := by omega
  have hc5 : ¬ (rl ≤ c) := by omega
  have H := Lib.hid @h
  clear h
  simp only [test7b, in7b, L7b, tail7, body7, Try.f7, Option.getD_some, num] at hA hP hL hR ⊢
  refine r_drawn (by decide) (AtRel w) (by kernel_rfl) fun dd => ?_
  have hF : AtRel w ((w.at d).at dd) := ⟨dd, rfl⟩
  simp only [List.size_toArray, List.length_cons, List.length_nil, Nat.reduceAdd, Nat.zero_add]
  co_applyP r_take (i := 0) rfl (by first | kernel_rfl | decide +kernel) (by first | kernel_rfl | decide +kernel) (by first | kernel_rfl | decide +kernel) (.inl ⟨by rfl, fun _ hw => ⟨run_eq_of ?run0, ?guar0⟩⟩) hF ?rest0
  case run0 =>
    intro K hK
    go_simp
    exact hK
  case guar0 =>
    rw [listed_nil (by simp [go_sem])]; exact Terms.idle (termsF S) _
  try walk_nrm
  co_applyP r_take (i := 1) rfl (by first | kernel_rfl | decide +kernel) (by first | kernel_rfl | decide +kernel) (by first | kernel_rfl | decide +kernel) (.inl ⟨by rfl, fun _ hw => ⟨run_eq_of ?run1, ?guar1⟩⟩) hF ?rest1
  case run1 =>
    intro K hK
    go_simp
    exact hK
  case guar1 =>
    rw [listed_nil (by simp [go_sem])]; exact Terms.idle (termsF S) _
  try walk_nrm
  co_applyP r_take (i := 2) rfl (by first | kernel_rfl | decide +kernel) (by first | kernel_rfl | decide +kernel) (by first | kernel_rfl | decide +kernel) (.inl ⟨by rfl, fun _ hw => ⟨run_eq_of ?run2, ?guar2⟩⟩) hF ?rest2
  case run2 =>
    intro K hK
    go_simp
    exact hK
  case guar2 =>
    rw [listed_nil (by simp [go_sem])]; exact Terms.idle (termsF S) _
  try walk_nrm
  co_applyP r_take (i := 3) rfl (by first | kernel_rfl | decide +kernel) (by first | kernel_rfl | decide +kernel) (by first | kernel_rfl | decide +kernel) (.inl ⟨by rfl, fun _ hw => ⟨run_eq_of ?run3, ?guar3⟩⟩) hF ?rest3
  case run3 =>
    intro K hK
    go_simp
    exact hK
  case guar3 =>
    rw [listed_nil (by simp [go_sem, *])]; exact Terms.idle (termsF S) _
  try walk_nrm
  co_applyP r_take (i := 4) rfl (by first | kernel_rfl | decide +kernel) (by first | kernel_rfl | decide +kernel) (by first | kernel_rfl | decide +kernel) (.inl ⟨by rfl, fun _ hw => ⟨run_eq_of ?run4, ?guar4⟩⟩) hF ?rest4
  case run4 =>
    intro K hK
    go_simp
    exact hK
  case guar4 =>
    rw [listed_nil (by simp [go_sem])]; exact Terms.idle (termsF S) _
  try walk_nrm
  co_applyP r_take (i := 5) rfl (by first | kernel_rfl | decide +kernel) (by first | kernel_rfl | decide +kernel) (by first | kernel_rfl | decide +kernel) (.inl ⟨by rfl, fun _ hw => ⟨run_eq_of ?run5, ?guar5⟩⟩) hF ?rest5
  case run5 =>
    intro K hK
    go_simp
    exact hK
  case guar5 =>
    rw [listed_nil (by simp [go_sem])]; exact Terms.idle (termsF S) _
  try walk_nrm
  co_applyP r_take (i := 6) rfl (by first | kernel_rfl | decide +kernel) (by first | kernel_rfl | decide +kernel) (by first | kernel_rfl | decide +kernel) (.inl ⟨by rfl, fun _ hw => ⟨run_eq_of ?run6, ?guar6⟩⟩) hF ?rest6
  case run6 =>
    intro K hK
    go_simp
    exact hK
  case guar6 =>
    rw [listed_nil (by simp [go_sem])]; exact Terms.idle (termsF S) _
  try walk_nrm
  co_applyP r_take (i := 7) rfl (by first | kernel_rfl | decide +kernel) (by first | kernel_rfl | decide +kernel) (by first | kernel_rfl | decide +kernel) (.inl ⟨by rfl, fun _ hw => ⟨run_eq_of ?run7, ?guar7⟩⟩) hF ?rest7
  case run7 =>
    intro K hK
    go_simp
    exact hK
  case guar7 =>
    rw [listed_nil (by simp [go_sem, *])]; exact Terms.idle (termsF S) _
  try walk_nrm
  co_applyP r_take (i := 8) rfl (by first | kernel_rfl | decide +kernel) (by first | kernel_rfl | decide +kernel) (by first | kernel_rfl | decide +kernel) (.inl ⟨by rfl, fun _ hw => ⟨run_eq_of ?run8, ?guar8⟩⟩) hF ?rest8
  case run8 =>
    intro K hK
    obtain ⟨dd', hdd⟩ := hw; subst hdd
    go_simp
    exact hK
  case guar8 =>
    obtain ⟨dd', hdd⟩ := hw; subst hdd
    (intro e he; have hm := mem_listed he; simp [go_sem, *] at hm; try (subst hm; exact evF_cell _ _ (hAS _ (addBlk' _ _))))
  try walk_nrm
  co_applyP r_take (i := 9) rfl (by first | kernel_rfl | decide +kernel) (by first | kernel_rfl | decide +kernel) (by first | kernel_rfl | decide +kernel) (.inl ⟨by rfl, fun _ hw => ⟨run_eq_of ?run9, ?guar9⟩⟩) hF ?rest9
  case run9 =>
    intro K hK
    go_simp
    exact hK
  case guar9 =>
    rw [listed_nil (by simp [go_sem])]; exact Terms.idle (termsF S) _
  try walk_nrm
  co_applyP r_take (i := 10) rfl (by first | kernel_rfl | decide +kernel) (by first | kernel_rfl | decide +kernel) (by first | kernel_rfl | decide +kernel) (.inl ⟨by rfl, fun _ hw => ⟨run_eq_of ?run10, ?guar10⟩⟩) hF ?rest10
  case run10 =>
    intro K hK
    go_simp
    exact hK
  case guar10 =>
    rw [listed_nil (by simp [go_sem])]; exact Terms.idle (termsF S) _
  try walk_nrm
  co_applyP r_take (i := 11) rfl (by first | kernel_rfl | decide +kernel) (by first | kernel_rfl | decide +kernel) (by first | kernel_rfl | decide +kernel) (.inl ⟨by rfl, fun _ hw => ⟨run_eq_of ?run11, ?guar11⟩⟩) hF ?rest11
  case run11 =>
    intro K hK
    go_simp
    exact hK
  case guar11 =>
    rw [listed_nil (by simp [go_sem, *])]; exact Terms.idle (termsF S) _
  try walk_nrm
  co_applyP r_take (i := 12) rfl (by first | kernel_rfl | decide +kernel) (by first | kernel_rfl | decide +kernel) (by first | kernel_rfl | decide +kernel) (.inl ⟨by rfl, fun _ hw => ⟨run_eq_of ?run12, ?guar12⟩⟩) hF ?rest12
  case run12 =>
    intro K hK
    obtain ⟨dd', hdd⟩ := hw; subst hdd
    go_simp
    exact hK
  case guar12 =>
    obtain ⟨dd', hdd⟩ := hw; subst hdd
    (intro e he; have hm := mem_listed he; simp [go_sem, *] at hm; try (subst hm; exact evF_cell _ _ (hPS _ (addBlk' _ _))))
  try walk_nrm
  co_applyP r_take (i := 13) rfl (by first | kernel_rfl | decide +kernel) (by first | kernel_rfl | decide +kernel) (by first | kernel_rfl | decide +kernel) (.inl ⟨by rfl, fun _ hw => ⟨run_eq_of ?run13, ?guar13⟩⟩) hF ?rest13
  case run13 =>
    intro K hK
    go_simp
    exact hK
  case guar13 =>
    rw [listed_nil (by simp [go_sem])]; exact Terms.idle (termsF S) _
  try walk_nrm
  co_applyP r_take (i := 14) rfl (by first | kernel_rfl | decide +kernel) (by first | kernel_rfl | decide +kernel) (by first | kernel_rfl | decide +kernel) (.inl ⟨by rfl, fun _ hw => ⟨run_eq_of ?run14, ?guar14⟩⟩) hF ?rest14
  case run14 =>
    intro K hK
    go_simp
    exact hK
  case guar14 =>
    rw [listed_nil (by simp [go_sem, *])]; exact Terms.idle (termsF S) _
  try walk_nrm
  co_applyP r_take (i := 15) rfl (by first | kernel_rfl | decide +kernel) (by first | kernel_rfl | decide +kernel) (by first | kernel_rfl | decide +kernel) (.inl ⟨by rfl, fun _ hw => ⟨run_eq_of ?run15, ?guar15⟩⟩) hF ?rest15
  case run15 =>
    intro K hK
    go_simp
    exact hK
  case guar15 =>
    rw [listed_nil (by simp [go_sem, *])]; exact Terms.idle (termsF S) _
  try walk_nrm
  co_applyP r_take (i := 16) rfl (by first | kernel_rfl | decide +kernel) (by first | kernel_rfl | decide +kernel) (by first | kernel_rfl | decide +kernel) (.inl ⟨by rfl, fun _ hw => ⟨run_eq_of ?run16, ?guar16⟩⟩) hF ?rest16
  case run16 =>
    intro K hK
    go_simp
    exact hK
  case guar16 =>
    rw [listed_nil (by simp [go_sem])]; exact Terms.idle (termsF S) _
  try walk_nrm
  co_applyP r_take (i := 17) rfl (by first | kernel_rfl | decide +kernel) (by first | kernel_rfl | decide +kernel) (by first | kernel_rfl | decide +kernel) (.inl ⟨by rfl, fun _ hw => ⟨run_eq_of ?run17, ?guar17⟩⟩) hF ?rest17
  case run17 =>
    intro K hK
    go_simp
    exact hK
  case guar17 =>
    rw [listed_nil (by simp [go_sem])]; exact Terms.idle (termsF S) _
  try walk_nrm
  co_applyP r_take (i := 18) rfl (by first | kernel_rfl | decide +kernel) (by first | kernel_rfl | decide +kernel) (by first | kernel_rfl | decide +kernel) (.inl ⟨by rfl, fun _ hw => ⟨run_eq_of ?run18, ?guar18⟩⟩) hF ?rest18
  case run18 =>
    intro K hK
    go_simp
    exact hK
  case guar18 =>
    rw [listed_nil (by simp [go_sem])]; exact Terms.idle (termsF S) _
  try walk_nrm
  co_applyP r_take (i := 19) rfl (by first | kernel_rfl | decide +kernel) (by first | kernel_rfl | decide +kernel) (by first | kernel_rfl | decide +kernel) (.inl ⟨by rfl, fun _ hw => ⟨run_eq_of ?run19, ?guar19⟩⟩) hF ?rest19
  case run19 =>
    intro K hK
    go_simp
    exact hK
  case guar19 =>
    rw [listed_nil (by simp [go_sem, *])]; exact Terms.idle (termsF S) _
  try walk_nrm
  co_applyP r_take (i := 20) rfl (by first | kernel_rfl | decide +kernel) (by first | kernel_rfl | decide +kernel) (by first | kernel_rfl | decide +kernel) (.inl ⟨by rfl, fun _ hw => ⟨run_eq_of ?run20, ?guar20⟩⟩) hF ?rest20
  case run20 =>
    intro K hK
    obtain ⟨dd', hdd⟩ := hw; subst hdd
    go_simp
    exact hK
  case guar20 =>
    obtain ⟨dd', hdd⟩ := hw; subst hdd
    (intro e he; have hm := mem_listed he; simp [go_sem, *] at hm; try (subst hm; exact evF_cell _ _ (hLS _ (addBlk' _ _))))
  try walk_nrm
  co_applyP r_take (i := 21) rfl (by first | kernel_rfl | decide +kernel) (by first | kernel_rfl | decide +kernel) (by first | kernel_rfl | decide +kernel) (.inl ⟨by rfl, fun _ hw => ⟨run_eq_of ?run21, ?guar21⟩⟩) hF ?rest21
  case run21 =>
    intro K hK
    go_simp
    exact hK
  case guar21 =>
    rw [listed_nil (by simp [go_sem])]; exact Terms.idle (termsF S) _
  try walk_nrm
  co_applyP r_take (i := 22) rfl (by first | kernel_rfl | decide +kernel) (by first | kernel_rfl | decide +kernel) (by first | kernel_rfl | decide +kernel) (.inl ⟨by rfl, fun _ hw => ⟨run_eq_of ?run22, ?guar22⟩⟩) hF ?rest22
  case run22 =>
    intro K hK
    go_simp
    exact hK
  case guar22 =>
    rw [listed_nil (by simp [go_sem])]; exact Terms.idle (termsF S) _
  try walk_nrm
  co_applyP r_take (i := 23) rfl (by first | kernel_rfl | decide +kernel) (by first | kernel_rfl | decide +kernel) (by first | kernel_rfl | decide +kernel) (.inl ⟨by rfl, fun _ hw => ⟨run_eq_of ?run23, ?guar23⟩⟩) hF ?rest23
  case run23 =>
    intro K hK
    go_simp
    exact hK
  case guar23 =>
    rw [listed_nil (by simp [go_sem, *])]; exact Terms.idle (termsF S) _
  try walk_nrm
  co_applyP r_take (i := 24) rfl (by first | kernel_rfl | decide +kernel) (by first | kernel_rfl | decide +kernel) (by first | kernel_rfl | decide +kernel) (.inl ⟨by rfl, fun _ hw => ⟨run_eq_of ?run24, ?guar24⟩⟩) hF ?rest24
  case run24 =>
    intro K hK
    obtain ⟨dd', hdd⟩ := hw; subst hdd
    go_simp
    exact hK
  case guar24 =>
    obtain ⟨dd', hdd⟩ := hw; subst hdd
    (intro e he; have hm := mem_listed he; simp [go_sem, *] at hm; try (subst hm; exact evF_cell _ _ (hPS _ (addBlk' _ _))))
  try walk_nrm
  co_applyP r_take (i := 25) rfl (by first | kernel_rfl | decide +kernel) (by first | kernel_rfl | decide +kernel) (by first | kernel_rfl | decide +kernel) (.inl ⟨by rfl, fun _ hw => ⟨run_eq_of ?run25, ?guar25⟩⟩) hF ?rest25
  case run25 =>
    intro K hK
    go_simp
    exact hK
  case guar25 =>
    rw [listed_nil (by simp [go_sem])]; exact Terms.idle (termsF S) _
  try walk_nrm
  co_applyP r_take (i := 26) rfl (by first | kernel_rfl | decide +kernel) (by first | kernel_rfl | decide +kernel) (by first | kernel_rfl | decide +kernel) (.inl ⟨by rfl, fun _ hw => ⟨run_eq_of ?run26, ?guar26⟩⟩) hF ?rest26
  case run26 =>
    intro K hK
    go_simp
    exact hK
  case guar26 =>
    rw [listed_nil (by simp [go_sem])]; exact Terms.idle (termsF S) _
  try walk_nrm
  co_applyP r_take (i := 27) rfl (by first | kernel_rfl | decide +kernel) (by first | kernel_rfl | decide +kernel) (by first | kernel_rfl | decide +kernel) (.inl ⟨by rfl, fun _ hw => ⟨run_eq_of ?run27, ?guar27⟩⟩) hF ?rest27
  case run27 =>
    intro K hK
    go_simp
    exact hK
  case guar27 =>
    rw [listed_nil (by simp [go_sem, *])]; exact Terms.idle (termsF S) _
  try walk_nrm
  co_applyP r_take (i := 28) rfl (by first | kernel_rfl | decide +kernel) (by first | kernel_rfl | decide +kernel) (by first | kernel_rfl | decide +kernel) (.inl ⟨by rfl, fun _ hw => ⟨run_eq_of ?run28, ?guar28⟩⟩) hF ?rest28
  case run28 =>
    intro K hK
    obtain ⟨dd', hdd⟩ := hw; subst hdd
    go_simp
    exact hK
  case guar28 =>
    obtain ⟨dd', hdd⟩ := hw; subst hdd
    (intro e he; have hm := mem_listed he; simp [go_sem, *] at hm; try (subst hm; exact evF_cell _ _ (hAS _ (addBlk' _ _))))
  try walk_nrm
  co_applyP r_take (i := 29) rfl (by first | kernel_rfl | decide +kernel) (by first | kernel_rfl | decide +kernel) (by first | kernel_rfl | decide +kernel) (.inl ⟨by rfl, fun _ hw => ⟨run_eq_of ?run29, ?guar29⟩⟩) hF ?rest29
  case run29 =>
    intro K hK
    go_simp
    exact hK
  case guar29 =>
    rw [listed_nil (by simp [go_sem, *])]; exact Terms.idle (termsF S) _
  try walk_nrm
  co_applyP r_take (i := 30) rfl (by first | kernel_rfl | decide +kernel) (by first | kernel_rfl | decide +kernel) (by first | kernel_rfl | decide +kernel) (.inl ⟨by rfl, fun _ hw => ⟨run_eq_of ?run30, ?guar30⟩⟩) hF ?rest30
  case run30 =>
    intro K hK
    obtain ⟨dd', hdd⟩ := hw; subst hdd
    go_simp
    exact hK
  case guar30 =>
    obtain ⟨dd', hdd⟩ := hw; subst hdd
    (intro e he; have hm := mem_listed he; simp [go_sem, *] at hm; try (subst hm; exact evF_cell _ _ (hRS _ (addBlk' _ _))))
  try walk_nrm
  co_applyP r_take (i := 31) rfl (by first | kernel_rfl | decide +kernel) (by first | kernel_rfl | decide +kernel) (by first | kernel_rfl | decide +kernel) (.inl ⟨by rfl, fun _ hw => ⟨run_eq_of ?run31, ?guar31⟩⟩) hF ?rest31
  case run31 =>
    intro K hK
    go_simp
    exact hK
  case guar31 =>
    rw [listed_nil (by simp [go_sem, *])]; exact Terms.idle (termsF S) _
  try walk_nrm
  co_applyP r_take (i := 32) rfl (by first | kernel_rfl | decide +kernel) (by first | kernel_rfl | decide +kernel) (by first | kernel_rfl | decide +kernel) (.inl ⟨by rfl, fun _ hw => ⟨run_eq_of ?run32, ?guar32⟩⟩) hF ?rest32
  case run32 =>
    intro K hK
    go_simp
    exact hK
  case guar32 =>
    rw [listed_nil (by simp [go_sem, *])]; exact Terms.idle (termsF S) _
  try walk_nrm
  refine anyJ_done (by first | kernel_rfl | decide +kernel) ?_ _
  clear hF
  try simp only [at_at']
  refine r_end ?_
  try simp only [bne_self_eq_false, hp4, hc4, hp5, hc5, decide_false]
  exact H.out _ _ _ _ _ _ _ _ _ _ _ _ _ _ _ _ _ _ _ _ _ _ _ _ _ _ _ _ _ _ _ _ _ _ _ _ _ _ _ _ _ _ _ _ _ _ _ _ _ _ _ _ _ _ _ _ _ _ _ _ _ _ _ _ _ _ _ _ _ _ _ _ _ _ _ _ _ _ _ _ _ _ _ _ _ _ _ _ _ _ _ _ _ _ _ _ _ _ _ _ _ _ _ _ _ _ _ _ _ _ _ _ _ _ _ _ _ _ _ _ _ _ _ _ _ _ _ _
end

noncomputable def r22c : Code := match in7b with | .seq _ (.seq _ c) => c | _ => .skip

/-- The counts, a row. -/
def AtRow (w : World) (A : Nat) (xs : List Int) : Prop := w.heap[A]? = some (.cells (xs.map num).toArray 3)
theorem AtRow.cell {w : World} {A : Nat} {xs : List Int} (h : AtRow w A xs) {p : Nat} {c : Int} (hc : xs[p]? = some c) : w.cell? ((⟨A, 0, none⟩ : Addr).add p) = some (num c) ∧ w.frozen? ((⟨A, 0, none⟩ : Addr).add p) = false := by
  have e : (⟨A, 0, none⟩ : Addr).add p = ⟨A, p, none⟩ := by by_cases h0 : p = 0 <;> simp [Addr.add, h0]
  have hp : (xs.map num).toArray[p]? = some (num c) := by simp [hc]
  unfold AtRow at h
  rw [e]
  exact ⟨by simpa [World.cell?, h] using hp, by simp [World.frozen?, h]⟩
theorem AtRow.set {w : World} {A : Nat} {xs : List Int} (h : AtRow w A xs) (p : Nat) (c : Int) : AtRow (w.setCell ((⟨A, 0, none⟩ : Addr).add p) (num c)) A (xs.set p c) := by
  have e : (⟨A, 0, none⟩ : Addr).add p = ⟨A, p, none⟩ := by by_cases h0 : p = 0 <;> simp [Addr.add, h0]
  unfold AtRow at h ⊢
  rw [e]
  simp [World.setCell, Array.getElem?_modify, h, List.map_set]
theorem grown_set {W w : World} {A : Nat} (h : W.grownBy w (some A)) (p : Nat) (v : Value) : W.grownBy (w.setCell ((⟨A, 0, none⟩ : Addr).add p) v) (some A) := by
  have e : (⟨A, 0, none⟩ : Addr).add p = ⟨A, p, none⟩ := by by_cases h0 : p = 0 <;> simp [Addr.add, h0]
  rw [e]
  refine ⟨?_, ?_, ?_, by rw [size_setCell]; exact h.size, fun k hk hn => (heap_setCell_ne (by intro e; apply hn; simp at e; simp [e])).trans (h.block k hk hn)⟩
  · rw [← h.os]; unfold World.setCell; split <;> rfl
  · rw [← h.tape]; unfold World.setCell; split <;> rfl
  · rw [← h.output]; unfold World.setCell; split <;> rfl

/-- How many came of each part. -/
def cntsL (n : Nat) (L : List Int) : List Int := (List.range n).map fun (p : Nat) => (cntL p L : Int)
theorem cnts_get {n p : Nat} {L : List Int} (hp : p < n) : (cntsL n L)[p]? = some (cntL p L : Int) := by simp [cntsL, List.getElem?_map, List.getElem?_range hp]
theorem cnts_snoc {n p : Nat} {L : List Int} {x : Int} (hp : p < n) (hx : x % 64 = (p : Int)) : cntsL n (L ++ [x]) = (cntsL n L).set p ((cntL p L : Int) + 1) := by
  refine List.ext_getElem? fun j => ?_
  by_cases hj : j < n
  · rw [cnts_get hj, cntL_snoc, List.getElem?_set, cnts_get hj]
    by_cases e : p = j
    · subst e
      simp [hx, cntsL, hp]
    · rw [if_neg e, if_neg (by omega)]
      simp
  · rw [List.getElem?_eq_none (by simp [cntsL]; omega), List.getElem?_eq_none (by simp [cntsL]; omega)]

/-- What is read through the loops: none of it in block A. -/
structure PartsF (S : Loc → Prop) (W : World) (A : Nat) (l0 p0 : Option Addr) (L : List Int) (ps : List (List Int)) (hd : Nat → Value) : Prop where
  lcell : ∀ (i : Nat) x, L[i]? = some x → ∃ ad, l0 = some ad ∧ W.cell? (ad.add i) = some (num x)
  lclear : ∀ ad, l0 = some ad → ∀ z : Addr, z.block = ad.block → ¬ S (.cell z)
  lA : ∀ ad, l0 = some ad → ad.block ≠ A
  parts : PartsAt S W p0 ps hd
  pA : ∀ ad, p0 = some ad → ad.block ≠ A
  rA : ∀ j xs, ps[j]? = some xs → ∀ k, (hd j).ownBlock = some k → k ≠ A

section
variable {S : Loc → Prop} {cs : List Frame} {X : (Loc → Prop) → Goroutine → World → Prop} {n len cp cl : Nat} {zs0 vt : Value} {l0 p0 : Option Addr}
set_option maxHeartbeats 16000000 in
/-- Behind the test: the count goes up. -/
theorem at_step {w : World} {aa pd la : Addr} {i p c : Nat} (hp : p < n) (hc : c < 1000000) (hilen : i < 1152921504606846976) (hA : w.cell? (aa.add p) = some (num (c : Int))) (hfz : w.frozen? (aa.add p) = false) (hAS : ∀ z : Addr, z.block = aa.block → ¬ S (.cell z))
    (h : ∀ (j2 j3 j7 j8 j9 j13 j14 j15 j16 j17 j18 j19 j20 j21 j22 j23 j24 j25 j26 j27 j28 j29 j30 j31 j32 j33 j34 j35 j36 j37 j38 j39 j40 j41 j42 j43 j44 j45 j46 j47 j48 j49 j50 j51 j52 j53 j54 j55 j56 j57 j58 j59 j60 j61 j62 j63 j64 j65 j66 j67 j68 j69 j70 j71 j72 j73 j74 j75 j76 j77 j78 j79 j80 j81 j82 j83 j84 j85 j86 j87 j88 j89 j90 j91 j92 j93 j94 j95 j96 j97 j98 j99 j100 j101 j102 j103 j104 j105 j106 j107 j108 j109 j110 j111 j112 j113 j114 j115 j116 j117 j118 j119 j120 j121 j122 j123 j124 j125 j126 j127 j128 j129 j130 j131 j132 j133 j134 j135 j136 : Value) (d : Nat), Reach Try.prog S (G ((base 7).at ⟨#[zs0, vt, j2, j3, .bool false, .bool true, .slice (some pd) n cp, j7, j8, j9, .slice (some la) len cl, .slice (some aa) n n, num ((i + 1 : Nat) : Int), j13, j14, j15, j16, j17, j18, j19, j20, j21, j22, j23, j24, j25, j26, j27, j28, j29, j30, j31, j32, j33, j34, j35, j36, j37, j38, j39, j40, j41, j42, j43, j44, j45, j46, j47, j48, j49, j50, j51, j52, j53, j54, j55, j56, j57, j58, j59, j60, j61, j62, j63, j64, j65, j66, j67, j68, j69, j70, j71, j72, j73, j74, j75, j76, j77, j78, j79, j80, j81, j82, j83, j84, j85, j86, j87, j88, j89, j90, j91, j92, j93, j94, j95, j96, j97, j98, j99, j100, j101, j102, j103, j104, j105, j106, j107, j108, j109, j110, j111, j112, j113, j114, j115, j116, j117, j118, j119, j120, j121, j122, j123, j124, j125, j126, j127, j128, j129, j130, j131, j132, j133, j134, j135, j136], []⟩ [.code L7b, .inLoop L7b, .inBlock 4, .code (tail7 8)]) cs) ((w.setCell (aa.add p) (num ((c : Int) + 1))).at d) X) :
    ∀ (j2 j3 j7 j8 j9 j14 j15 j16 j17 j18 j19 j20 j21 j22 j23 j24 j25 j26 j27 j28 j29 j30 j31 j32 j33 j34 j35 j36 j37 j38 j39 j40 j41 j42 j43 j44 j45 j46 j47 j48 j49 j50 j51 j52 j53 j54 j55 j56 j57 j58 j59 j60 j61 j62 j63 j64 j65 j66 j67 j68 j69 j70 j71 j72 j73 j74 j75 j76 j77 j78 j79 j80 j81 j82 j83 j84 j85 j86 j87 j88 j89 j90 j91 j92 j93 j94 j95 j96 j98 j99 j100 j101 j102 j103 j104 j105 j106 j107 j108 j109 j110 j111 j112 j113 j114 j115 j116 j117 j118 j119 j120 j121 j122 j123 j124 j125 j126 j127 j128 j129 j130 j131 j132 j133 j134 j135 j136 : Value) (d : Nat), Reach Try.prog S (G ((base 7).at ⟨#[zs0, vt, j2, j3, .bool false, .bool true, .slice (some pd) n cp, j7, j8, j9, .slice (some la) len cl, .slice (some aa) n n, num i, num p, j14, j15, j16, j17, j18, j19, j20, j21, j22, j23, j24, j25, j26, j27, j28, j29, j30, j31, j32, j33, j34, j35, j36, j37, j38, j39, j40, j41, j42, j43, j44, j45, j46, j47, j48, j49, j50, j51, j52, j53, j54, j55, j56, j57, j58, j59, j60, j61, j62, j63, j64, j65, j66, j67, j68, j69, j70, j71, j72, j73, j74, j75, j76, j77, j78, j79, j80, j81, j82, j83, j84, j85, j86, j87, j88, j89, j90, j91, j92, j93, j94, j95, j96, .bool false, j98, j99, j100, j101, j102, j103, j104, j105, j106, j107, j108, j109, j110, j111, j112, j113, j114, j115, j116, j117, j118, j119, j120, j121, j122, j123, j124, j125, j126, j127, j128, j129, j130, j131, j132, j133, j134, j135, j136], []⟩ [.code rest7b, .code r22c, .inBlock 5, .code post7b, .inLoop L7b, .inBlock 4, .code (tail7 8)]) cs) (w.at d) X := by
  intro j2 j3 j7 j8 j9 j14 j15 j16 j17 j18 j19 j20 j21 j22 j23 j24 j25 j26 j27 j28 j29 j30 j31 j32 j33 j34 j35 j36 j37 j38 j39 j40 j41 j42 j43 j44 j45 j46 j47 j48 j49 j50 j51 j52 j53 j54 j55 j56 j57 j58 j59 j60 j61 j62 j63 j64 j65 j66 j67 j68 j69 j70 j71 j72 j73 j74 j75 j76 j77 j78 j79 j80 j81 j82 j83 j84 j85 j86 j87 j88 j89 j90 j91 j92 j93 j94 j95 j96 j98 j99 j100 j101 j102 j103 j104 j105 j106 j107 j108 j109 j110 j111 j112 j113 j114 j115 j116 j117 j118 j119 j120 j121 j122 j123 j124 j125 j126 j127 j128 j129 j130 j131 j132 j133 j134 j135 j136 d
  have hp3 : (p : Int) < (n : Int) := by omega
  have ew : IntKind.i64.wrap ((i : Int) + 1) = ((i + 1 : Nat) : Int) := by rw [IntKind.wrap_i64]; omega
  have ec : IntKind.i64.wrap ((c : Int) + 1) = (c : Int) + 1 := by rw [IntKind.wrap_i64]; omega
  have H := Lib.hid @h
  clear h
  simp only [tail7, body7, L7b, in7b, post7b, test7b, rest7b, r22c, Try.f7, Option.getD_some, num] at hA ⊢
  repeat (first
      | refine r_end ?_ | refine r_skip ?_ | (refine r_region ?_; simp only [List.size_toArray, List.length_cons, List.length_nil, Nat.reduceAdd, Nat.zero_add, List.range, List.range.loop])
      | (refine r_cond (t := false) (by simp [Act.eval]) ?_; simp only [if_true, if_false, Bool.false_eq_true, ↓reduceIte])
      | refine r_seq ?_ | refine r_block ?_ | refine r_inBlock ?_
      | (refine r_op rfl rfl (by decide) (fun w₁ h₁ K hK => ?_); obtain ⟨dd, hdd⟩ := h₁; subst hdd; (try simp only [at_at', alloc_at', setCell_at']); go_simp; (try (unfold stored; go_simp))
         refine hK _ _ ⟨fun e he => (by have hm := mem_listed he; clear hK he; simp [go_sem, *] at hm; first | done | (subst hm; exact evF_cell _ _ (hAS _ (addBlk' _ _)))), ?_⟩; clear hK K; try walk_nrm))
  try simp only [at_at', alloc_at', setCell_at']
  refine r_inLoop ?_
  have l := H.out
  simp only [tail7, body7, L7b, in7b, post7b, test7b, rest7b, r22c, Try.f7, Option.getD_some, num] at l
  exact l _ _ _ _ _ _ _ _ _ _ _ _ _ _ _ _ _ _ _ _ _ _ _ _ _ _ _ _ _ _ _ _ _ _ _ _ _ _ _ _ _ _ _ _ _ _ _ _ _ _ _ _ _ _ _ _ _ _ _ _ _ _ _ _ _ _ _ _ _ _ _ _ _ _ _ _ _ _ _ _ _ _ _ _ _ _ _ _ _ _ _ _ _ _ _ _ _ _ _ _ _ _ _ _ _ _ _ _ _ _ _ _ _ _ _ _ _ _ _ _ _ _ _ _ _ _ _ _ _ _

set_option maxHeartbeats 16000000 in
theorem at_loop {Wm : World} {A : Nat} {aa : Addr} {L : List Int} {ps : List (List Int)} {hd : Nat → Value} (haa : aa = ⟨A, 0, none⟩) (hn : ps.length = n) (hlen : L.length = len) (hmax : len < 1000000000000000) (hF : PartsF S Wm A l0 p0 L ps hd) (hAS : ∀ z : Addr, z.block = A → ¬ S (.cell z))
    (hlaw : ∀ (i : Nat) x, L[i]? = some x → ∃ (p : Nat) (row : List Int), ps[p]? = some row ∧ x % 64 = (p : Int) ∧ cntL p (L.take i) < row.length ∧ row[cntL p (L.take i)]? = some x) (hr : ∀ x ∈ L, InR x) (hrow : ∀ row ∈ ps, row.length ≤ 40)
    (h : ∀ (w : World) (j2 j3 j7 j8 j9 j13 j14 j15 j16 j17 j18 j19 j20 j21 j22 j23 j24 j25 j26 j27 j28 j29 j30 j31 j32 j33 j34 j35 j36 j37 j38 j39 j40 j41 j42 j43 j44 j45 j46 j47 j48 j49 j50 j51 j52 j53 j54 j55 j56 j57 j58 j59 j60 j61 j62 j63 j64 j65 j66 j67 j68 j69 j70 j71 j72 j73 j74 j75 j76 j77 j78 j79 j80 j81 j82 j83 j84 j85 j86 j87 j88 j89 j90 j91 j92 j93 j94 j95 j96 j97 j98 j99 j100 j101 j102 j103 j104 j105 j106 j107 j108 j109 j110 j111 j112 j113 j114 j115 j116 j117 j118 j119 j120 j121 j122 j123 j124 j125 j126 j127 j128 j129 j130 j131 j132 j133 j134 j135 j136 : Value) (d : Nat), Wm.grownBy w (some A) → AtRow w A (cntsL n L) → Reach Try.prog S (G ((base 7).at ⟨#[zs0, vt, j2, j3, .bool false, .bool true, .slice p0 n cp, j7, j8, j9, .slice l0 len cl, .slice (some aa) n n, num len, j13, j14, j15, j16, j17, j18, j19, j20, j21, j22, j23, j24, j25, j26, j27, j28, j29, j30, j31, j32, j33, j34, j35, j36, j37, j38, j39, j40, j41, j42, j43, j44, j45, j46, j47, j48, j49, j50, j51, j52, j53, j54, j55, j56, j57, j58, j59, j60, j61, j62, j63, j64, j65, j66, j67, j68, j69, j70, j71, j72, j73, j74, j75, j76, j77, j78, j79, j80, j81, j82, j83, j84, j85, j86, j87, j88, j89, j90, j91, j92, j93, j94, j95, j96, j97, j98, j99, j100, j101, j102, j103, j104, j105, j106, j107, j108, j109, j110, j111, j112, j113, j114, j115, j116, j117, j118, j119, j120, j121, j122, j123, j124, j125, j126, j127, j128, j129, j130, j131, j132, j133, j134, j135, j136], []⟩ [.code (tail7 8)]) cs) (w.at d) X) :
    ∀ (k i : Nat) (w : World), i + k = len → Wm.grownBy w (some A) → AtRow w A (cntsL n (L.take i)) → ∀ (j2 j3 j7 j8 j9 j13 j14 j15 j16 j17 j18 j19 j20 j21 j22 j23 j24 j25 j26 j27 j28 j29 j30 j31 j32 j33 j34 j35 j36 j37 j38 j39 j40 j41 j42 j43 j44 j45 j46 j47 j48 j49 j50 j51 j52 j53 j54 j55 j56 j57 j58 j59 j60 j61 j62 j63 j64 j65 j66 j67 j68 j69 j70 j71 j72 j73 j74 j75 j76 j77 j78 j79 j80 j81 j82 j83 j84 j85 j86 j87 j88 j89 j90 j91 j92 j93 j94 j95 j96 j97 j98 j99 j100 j101 j102 j103 j104 j105 j106 j107 j108 j109 j110 j111 j112 j113 j114 j115 j116 j117 j118 j119 j120 j121 j122 j123 j124 j125 j126 j127 j128 j129 j130 j131 j132 j133 j134 j135 j136 : Value) (d : Nat), Reach Try.prog S (G ((base 7).at ⟨#[zs0, vt, j2, j3, .bool false, .bool true, .slice p0 n cp, j7, j8, j9, .slice l0 len cl, .slice (some aa) n n, num i, j13, j14, j15, j16, j17, j18, j19, j20, j21, j22, j23, j24, j25, j26, j27, j28, j29, j30, j31, j32, j33, j34, j35, j36, j37, j38, j39, j40, j41, j42, j43, j44, j45, j46, j47, j48, j49, j50, j51, j52, j53, j54, j55, j56, j57, j58, j59, j60, j61, j62, j63, j64, j65, j66, j67, j68, j69, j70, j71, j72, j73, j74, j75, j76, j77, j78, j79, j80, j81, j82, j83, j84, j85, j86, j87, j88, j89, j90, j91, j92, j93, j94, j95, j96, j97, j98, j99, j100, j101, j102, j103, j104, j105, j106, j107, j108, j109, j110, j111, j112, j113, j114, j115, j116, j117, j118, j119, j120, j121, j122, j123, j124, j125, j126, j127, j128, j129, j130, j131, j132, j133, j134, j135, j136], []⟩ [.code L7b, .inLoop L7b, .inBlock 4, .code (tail7 8)]) cs) (w.at d) X := by
  intro k
  induction k with
  | zero =>
    intro i w hi hg hA j2 j3 j7 j8 j9 j13 j14 j15 j16 j17 j18 j19 j20 j21 j22 j23 j24 j25 j26 j27 j28 j29 j30 j31 j32 j33 j34 j35 j36 j37 j38 j39 j40 j41 j42 j43 j44 j45 j46 j47 j48 j49 j50 j51 j52 j53 j54 j55 j56 j57 j58 j59 j60 j61 j62 j63 j64 j65 j66 j67 j68 j69 j70 j71 j72 j73 j74 j75 j76 j77 j78 j79 j80 j81 j82 j83 j84 j85 j86 j87 j88 j89 j90 j91 j92 j93 j94 j95 j96 j97 j98 j99 j100 j101 j102 j103 j104 j105 j106 j107 j108 j109 j110 j111 j112 j113 j114 j115 j116 j117 j118 j119 j120 j121 j122 j123 j124 j125 j126 j127 j128 j129 j130 j131 j132 j133 j134 j135 j136 d
    obtain rfl : i = len := by omega
    rw [List.take_of_length_le (by omega)] at hA
    have h := fun j2 j3 j7 j8 j9 j13 j14 j15 j16 j17 j18 j19 j20 j21 j22 j23 j24 j25 j26 j27 j28 j29 j30 j31 j32 j33 j34 j35 j36 j37 j38 j39 j40 j41 j42 j43 j44 j45 j46 j47 j48 j49 j50 j51 j52 j53 j54 j55 j56 j57 j58 j59 j60 j61 j62 j63 j64 j65 j66 j67 j68 j69 j70 j71 j72 j73 j74 j75 j76 j77 j78 j79 j80 j81 j82 j83 j84 j85 j86 j87 j88 j89 j90 j91 j92 j93 j94 j95 j96 j97 j98 j99 j100 j101 j102 j103 j104 j105 j106 j107 j108 j109 j110 j111 j112 j113 j114 j115 j116 j117 j118 j119 j120 j121 j122 j123 j124 j125 j126 j127 j128 j129 j130 j131 j132 j133 j134 j135 j136 d => h w j2 j3 j7 j8 j9 j13 j14 j15 j16 j17 j18 j19 j20 j21 j22 j23 j24 j25 j26 j27 j28 j29 j30 j31 j32 j33 j34 j35 j36 j37 j38 j39 j40 j41 j42 j43 j44 j45 j46 j47 j48 j49 j50 j51 j52 j53 j54 j55 j56 j57 j58 j59 j60 j61 j62 j63 j64 j65 j66 j67 j68 j69 j70 j71 j72 j73 j74 j75 j76 j77 j78 j79 j80 j81 j82 j83 j84 j85 j86 j87 j88 j89 j90 j91 j92 j93 j94 j95 j96 j97 j98 j99 j100 j101 j102 j103 j104 j105 j106 j107 j108 j109 j110 j111 j112 j113 j114 j115 j116 j117 j118 j119 j120 j121 j122 j123 j124 j125 j126 j127 j128 j129 j130 j131 j132 j133 j134 j135 j136 d hg hA
    clear hF hlaw hr hrow hA hg hAS haa
    simp only [tail7, body7, L7b, in7b, post7b, test7b, rest7b, r22c, Try.f7, Option.getD_some, num] at h ⊢
    refine r_seq ?_
    refine r_seq ?_
    (refine r_region ?_; simp only [List.size_toArray, List.length_cons, List.length_nil, Nat.reduceAdd, Nat.zero_add, List.range, List.range.loop])
    repeat (refine r_op rfl rfl (by decide) (fun w₁ h₁ K hK => ?_); obtain ⟨dd, hdd⟩ := h₁; subst hdd; (try simp only [at_at', alloc_at']); go_simp
            refine hK _ _ ⟨fun e he => (by have hm := mem_listed he; clear hK he; simp [go_sem] at hm), ?_⟩; clear hK K; try walk_nrm)
    refine r_end ?_
    refine r_cond (t := false) (by simp [Act.eval]) ?_; simp only [if_true, if_false, Bool.false_eq_true, ↓reduceIte]
    refine r_exit rfl ?_
    exact h _ _ _ _ _ _ _ _ _ _ _ _ _ _ _ _ _ _ _ _ _ _ _ _ _ _ _ _ _ _ _ _ _ _ _ _ _ _ _ _ _ _ _ _ _ _ _ _ _ _ _ _ _ _ _ _ _ _ _ _ _ _ _ _ _ _ _ _ _ _ _ _ _ _ _ _ _ _ _ _ _ _ _ _ _ _ _ _ _ _ _ _ _ _ _ _ _ _ _ _ _ _ _ _ _ _ _ _ _ _ _ _ _ _ _ _ _ _ _ _ _ _ _ _ _ _ _ _ _ _
  | succ k ih =>
    intro i w hi hg hA j2 j3 j7 j8 j9 j13 j14 j15 j16 j17 j18 j19 j20 j21 j22 j23 j24 j25 j26 j27 j28 j29 j30 j31 j32 j33 j34 j35 j36 j37 j38 j39 j40 j41 j42 j43 j44 j45 j46 j47 j48 j49 j50 j51 j52 j53 j54 j55 j56 j57 j58 j59 j60 j61 j62 j63 j64 j65 j66 j67 j68 j69 j70 j71 j72 j73 j74 j75 j76 j77 j78 j79 j80 j81 j82 j83 j84 j85 j86 j87 j88 j89 j90 j91 j92 j93 j94 j95 j96 j97 j98 j99 j100 j101 j102 j103 j104 j105 j106 j107 j108 j109 j110 j111 j112 j113 j114 j115 j116 j117 j118 j119 j120 j121 j122 j123 j124 j125 j126 j127 j128 j129 j130 j131 j132 j133 j134 j135 j136 d
    have hlt : i < len := by omega
    have hlt' : (i : Int) < (len : Int) := by omega
    obtain ⟨x, hx⟩ : ∃ x, L[i]? = some x := ⟨_, List.getElem?_eq_getElem (by omega)⟩
    obtain ⟨p, row, hrw, hmod, hc, hxr⟩ := hlaw i x hx
    have hpn : p < n := by have := (List.getElem?_eq_some_iff.1 hrw).1; omega
    obtain ⟨la, rfl, hl0⟩ := hF.lcell i x hx
    obtain ⟨pd, rfl, hp0⟩ := hF.parts.cell p (by omega)
    obtain ⟨r0, rc, hrv, hrc, hrS, _⟩ := hF.parts.row p row hrw
    obtain ⟨rd, rfl, hr0⟩ := hrc _ x hxr
    have hL : w.cell? (la.add i) = some (num x) := hg.cell hl0 (by rw [addBlk']; simpa using hF.lA la rfl)
    have hP : w.cell? (pd.add p) = some (.slice (some rd) row.length rc) := by rw [← hrv]; exact hg.cell hp0 (by rw [addBlk']; simpa using hF.pA pd rfl)
    have hR : w.cell? (rd.add (cntL p (L.take i))) = some (num x) := hg.cell hr0 (by rw [addBlk']; simpa using hF.rA p row hrw rd.block (by rw [hrv]; rfl))
    obtain ⟨hAc, hAf⟩ := hA.cell (cnts_get (n := n) (L := L.take i) hpn)
    rw [← haa] at hAc hAf
    have haS : ∀ z : Addr, z.block = aa.block → ¬ S (.cell z) := fun z hz => hAS z (by rw [hz, haa])
    have hLS := hF.lclear la rfl
    have hPS := hF.parts.clear pd rfl
    have hc40 := hrow row (List.mem_of_getElem? hrw)
    have hA' := hA.set p ((cntL p (L.take i) : Int) + 1)
    have hg' := grown_set hg p (num ((cntL p (L.take i) : Int) + 1))
    have ht : L.take (i + 1) = L.take i ++ [x] := by rw [List.take_add_one, hx]; rfl
    rw [← cnts_snoc hpn hmod, ← ht] at hA'
    rw [← haa] at hA' hg'
    have nxt := ih (i + 1) _ (by omega) hg' hA'
    have st := at_step (cs := cs) (X := X) (cp := cp) (cl := cl) (len := len) (zs0 := zs0) (vt := vt) (pd := pd) (la := la) (i := i) hpn (by omega) (by omega) hAc hAf haS nxt
    have ts := parts_test (cs := cs) (X := X) (cp := cp) (cl := cl) (zs0 := zs0) (vt := vt) hlt hpn hc hAc hP hL hR haS hPS hLS (hrS rd rfl) st
    have HT := Lib.hid @ts
    have HC := Lib.hid ((pick_calls (S := S) (w := w) (k := x) (n := 64) (by omega) (by omega) (hr x (List.mem_of_getElem? hx))).mono (Post' := fun S' v w' => S' = S ∧ v = .int .i64 (p : Int) ∧ AtRel w w') fun S' v w' hp => ⟨hp.1, by rw [hp.2.1, hmod], hp.2.2⟩)
    clear ts st nxt ih h hF hlaw hr hrow hA hg hAS haa hAc hAf hA' hg' ht hP hR haS hPS hrS hrc hr0 hp0 hl0 hxr hc hc40 hmod hrw hx hrv
    have hclear := hLS
    clear hLS
    simp only [tail7, body7, L7b, in7b, post7b, test7b, rest7b, r22c, Try.f7, Option.getD_some, num] at hL ⊢
    refine r_seq ?_
    refine r_seq ?_
    (refine r_region ?_; simp only [List.size_toArray, List.length_cons, List.length_nil, Nat.reduceAdd, Nat.zero_add, List.range, List.range.loop])
    repeat (refine r_op rfl rfl (by decide) (fun w₁ h₁ K hK => ?_); obtain ⟨dd, hdd⟩ := h₁; subst hdd; (try simp only [at_at', alloc_at']); go_simp
            refine hK _ _ ⟨fun e he => (by have hm := mem_listed he; clear hK he; simp [go_sem] at hm), ?_⟩; clear hK K; try walk_nrm)
    refine r_end ?_
    refine r_cond (t := true) (by simp [Act.eval, hlt, hlt']) ?_; simp only [if_true, if_false, Bool.false_eq_true, ↓reduceIte]
    refine r_skip ?_
    repeat (first
      | refine r_end ?_ | refine r_skip ?_ | (refine r_region ?_; simp only [List.size_toArray, List.length_cons, List.length_nil, Nat.reduceAdd, Nat.zero_add, List.range, List.range.loop])
      | refine r_seq ?_ | refine r_block ?_ | refine r_inBlock ?_
      | (refine r_op rfl rfl (by decide) (fun w₁ h₁ K hK => ?_); obtain ⟨dd, hdd⟩ := h₁; subst hdd; (try simp only [at_at', alloc_at']); go_simp
         refine hK _ _ ⟨fun e he => (by have hm := mem_listed he; clear hK he; simp [go_sem, *] at hm; first | done | (subst hm; exact evF_cell _ _ (hclear _ (addBlk' _ _)))), ?_⟩; clear hK K; try walk_nrm))
    refine r_callx (HC.out.at ⟨_, rfl⟩) rfl rfl (by decide) rfl (by simp only [List.map_toArray, List.map_cons, List.map_nil]; rfl) (fun S' v w' hp => ?_)
    obtain ⟨hS', rfl, d', rfl⟩ := hp
    have hS' := hS'.symm; subst hS'
    clear HC
    try walk_nrm
    refine r_op rfl rfl (by decide) (fun w₁ h₁ K hK => ?_); obtain ⟨dd, hdd⟩ := h₁; subst hdd; (try simp only [at_at', alloc_at']); go_simp
    refine hK _ _ ⟨fun e he => (by have hm := mem_listed he; clear hK he; simp [go_sem] at hm), ?_⟩; clear hK K; try walk_nrm
    refine r_end ?_
    refine r_seq ?_
    refine r_seq ?_
    have l := HT.out
    simp only [tail7, body7, L7b, in7b, post7b, test7b, rest7b, r22c, Try.f7, Option.getD_some, num] at l
    exact l _ _ _ _ _ _ _ _ _ _ _ _ _ _ _ _ _ _ _ _ _ _ _ _ _ _ _ _ _ _ _ _ _ _ _ _ _ _ _ _ _ _ _ _ _ _ _ _ _ _ _ _ _ _ _ _ _ _ _ _ _ _ _ _ _ _ _ _ _ _ _ _ _ _ _ _ _ _ _ _ _ _ _ _ _ _ _ _ _ _ _ _ _ _ _ _ _ _ _ _ _ _ _ _ _ _ _ _ _ _ _ _ _ _ _ _ _ _ _ _ _ _ _ _ _ _ _ _ _
end
end Go.Proofs.Ytdpagejckahkkaa.Net
