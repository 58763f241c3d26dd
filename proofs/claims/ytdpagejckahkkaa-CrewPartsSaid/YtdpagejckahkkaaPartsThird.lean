/- CrewParts' third loop: as many came of each part as there were turns of it, as far as it goes. -/
import Derived.Test.YtdpagejckahkkaaPartsMid
set_option linter.unusedSimpArgs false
set_option linter.unusedVariables false
set_option maxRecDepth 100000
namespace Go.Proofs.Ytdpagejckahkkaa.Net
open Go Go.Conc Go.RowKit

noncomputable def L7d : Code := match tail7 8 with | .seq (.seq _ (.block _ (.loop c))) _ => c | _ => .skip
noncomputable def in7d : Code := match L7d with | .seq _ (.seq (.block _ c) _) => c | _ => .skip
noncomputable def post7d : Code := match L7d with | .seq _ (.seq _ c) => c | _ => .skip
noncomputable def L7n : Code := match in7d with | .seq _ (.seq (.seq _ (.block _ (.loop c))) _) => c | _ => .skip
noncomputable def t32c : Code := match in7d with | .seq _ (.seq _ c) => c | _ => .skip
noncomputable def r32c : Code := match t32c with | .seq c _ => c | _ => .skip

section
variable {S : Loc → Prop} {cs : List Frame} {X : (Loc → Prop) → Goroutine → World → Prop} {w : World} {n m cp cb rc p rl : Nat} {zs0 : Value} {b0 p0 : Option Addr} {aa : Addr}
set_option maxHeartbeats 16000000 in
theorem min_test {pd : Addr} {r0 : Option Addr} {q k : Nat} (hp : p < n) (hk : k < 1152921504606846976) (hq : q = min k rl) (hA : w.cell? (aa.add p) = some (num (q : Int))) (hP : w.cell? (pd.add p) = some (.slice r0 rl rc))
    (hAS : ∀ z : Addr, z.block = aa.block → ¬ S (.cell z)) (hPS : ∀ z : Addr, z.block = pd.block → ¬ S (.cell z)) {kk : List Item}
    (h : ∀ (j2 j3 j7 j8 j9 j10 j12 j13 j16 j17 j18 j19 j20 j21 j22 j23 j24 j25 j26 j27 j28 j29 j30 j31 j32 j33 j34 j35 j36 j37 j38 j39 j40 j41 j42 j43 j44 j45 j46 j47 j48 j49 j50 j51 j52 j53 j54 j55 j56 j57 j58 j59 j60 j61 j62 j63 j64 j65 j66 j67 j68 j69 j70 j71 j72 j73 j74 j75 j76 j77 j78 j79 j80 j81 j82 j83 j84 j85 j86 j87 j88 j89 j90 j91 j92 j93 j94 j95 j96 j97 j98 j99 j100 j101 j102 j103 j104 j105 j106 j107 j108 j109 j110 j111 j112 j113 j114 j115 j116 j117 j118 j119 j120 j121 j122 j123 j124 j125 j126 j127 j128 j129 j130 j131 j132 j133 j134 j136 : Value) (d : Nat), Reach Try.prog S (G ((base 7).at ⟨#[zs0, .slice b0 m cb, j2, j3, .bool false, .bool true, .slice (some pd) n cp, j7, j8, j9, j10, .slice (some aa) n n, j12, j13, num p, num k, j16, j17, j18, j19, j20, j21, j22, j23, j24, j25, j26, j27, j28, j29, j30, j31, j32, j33, j34, j35, j36, j37, j38, j39, j40, j41, j42, j43, j44, j45, j46, j47, j48, j49, j50, j51, j52, j53, j54, j55, j56, j57, j58, j59, j60, j61, j62, j63, j64, j65, j66, j67, j68, j69, j70, j71, j72, j73, j74, j75, j76, j77, j78, j79, j80, j81, j82, j83, j84, j85, j86, j87, j88, j89, j90, j91, j92, j93, j94, j95, j96, j97, j98, j99, j100, j101, j102, j103, j104, j105, j106, j107, j108, j109, j110, j111, j112, j113, j114, j115, j116, j117, j118, j119, j120, j121, j122, j123, j124, j125, j126, j127, j128, j129, j130, j131, j132, j133, j134, .bool false, j136], []⟩ kk) cs) (w.at d) X) :
    ∀ (j2 j3 j7 j8 j9 j10 j12 j13 j16 j17 j18 j19 j20 j21 j22 j23 j24 j25 j26 j27 j28 j29 j30 j31 j32 j33 j34 j35 j36 j37 j38 j39 j40 j41 j42 j43 j44 j45 j46 j47 j48 j49 j50 j51 j52 j53 j54 j55 j56 j57 j58 j59 j60 j61 j62 j63 j64 j65 j66 j67 j68 j69 j70 j71 j72 j73 j74 j75 j76 j77 j78 j79 j80 j81 j82 j83 j84 j85 j86 j87 j88 j89 j90 j91 j92 j93 j94 j95 j96 j97 j98 j99 j100 j101 j102 j103 j104 j105 j106 j107 j108 j109 j110 j111 j112 j113 j114 j115 j116 j117 j118 j119 j120 j121 j122 j123 j124 j125 j126 j127 j128 j129 j130 j131 j132 j133 j134 j135 j136 : Value) (d : Nat), Reach Try.prog S (G ((base 7).at ⟨#[zs0, .slice b0 m cb, j2, j3, .bool false, .bool true, .slice (some pd) n cp, j7, j8, j9, j10, .slice (some aa) n n, j12, j13, num p, num k, j16, j17, j18, j19, j20, j21, j22, j23, j24, j25, j26, j27, j28, j29, j30, j31, j32, j33, j34, j35, j36, j37, j38, j39, j40, j41, j42, j43, j44, j45, j46, j47, j48, j49, j50, j51, j52, j53, j54, j55, j56, j57, j58, j59, j60, j61, j62, j63, j64, j65, j66, j67, j68, j69, j70, j71, j72, j73, j74, j75, j76, j77, j78, j79, j80, j81, j82, j83, j84, j85, j86, j87, j88, j89, j90, j91, j92, j93, j94, j95, j96, j97, j98, j99, j100, j101, j102, j103, j104, j105, j106, j107, j108, j109, j110, j111, j112, j113, j114, j115, j116, j117, j118, j119, j120, j121, j122, j123, j124, j125, j126, j127, j128, j129, j130, j131, j132, j133, j134, j135, j136], []⟩ (.code r32c :: kk)) cs) (w.at d) X := by
  intro j2 j3 j7 j8 j9 j10 j12 j13 j16 j17 j18 j19 j20 j21 j22 j23 j24 j25 j26 j27 j28 j29 j30 j31 j32 j33 j34 j35 j36 j37 j38 j39 j40 j41 j42 j43 j44 j45 j46 j47 j48 j49 j50 j51 j52 j53 j54 j55 j56 j57 j58 j59 j60 j61 j62 j63 j64 j65 j66 j67 j68 j69 j70 j71 j72 j73 j74 j75 j76 j77 j78 j79 j80 j81 j82 j83 j84 j85 j86 j87 j88 j89 j90 j91 j92 j93 j94 j95 j96 j97 j98 j99 j100 j101 j102 j103 j104 j105 j106 j107 j108 j109 j110 j111 j112 j113 j114 j115 j116 j117 j118 j119 j120 j121 j122 j123 j124 j125 j126 j127 j128 j129 j130 j131 j132 j133 j134 j135 j136 d
  have hp3 : (p : Int) < (n : Int) := by omega
  have HQ := Lib.hid hq
  have H := Lib.hid @h
  clear h hq
  simp only [tail7, body7, L7d, in7d, post7d, L7n, t32c, r32c, Try.f7, Option.getD_some, num] at hA hP ⊢
  refine r_drawn (by decide) (AtRel w) (by kernel_rfl) fun dd => ?_
  have hF : AtRel w ((w.at d).at dd) := ⟨dd, rfl⟩
  simp only [List.size_toArray, List.length_cons, List.length_nil, Nat.reduceAdd, Nat.zero_add]
  co_applyP r_take (i := 0) rfl (by first | kernel_rfl | decide +kernel) (by first | kernel_rfl | decide +kernel) (by first | kernel_rfl | decide +kernel) (.inl ⟨by rfl, fun _ hw => ⟨run_eq_of ?run0, ?guar0⟩⟩) hF ?rest0
  case run0 =>
    intro K hK
    go_simp
    exact hK
  case guar0 =>
    rw [listed_nil (by simp [go_sem])]; exact Terms.idle (termsF S) _
  try walk_nrm
  co_applyP r_take (i := 1) rfl (by first | kernel_rfl | decide +kernel) (by first | kernel_rfl | decide +kernel) (by first | kernel_rfl | decide +kernel) (.inl ⟨by rfl, fun _ hw => ⟨run_eq_of ?run1, ?guar1⟩⟩) hF ?rest1
  case run1 =>
    intro K hK
    go_simp
    exact hK
  case guar1 =>
    rw [listed_nil (by simp [go_sem])]; exact Terms.idle (termsF S) _
  try walk_nrm
  co_applyP r_take (i := 2) rfl (by first | kernel_rfl | decide +kernel) (by first | kernel_rfl | decide +kernel) (by first | kernel_rfl | decide +kernel) (.inl ⟨by rfl, fun _ hw => ⟨run_eq_of ?run2, ?guar2⟩⟩) hF ?rest2
  case run2 =>
    intro K hK
    go_simp
    exact hK
  case guar2 =>
    rw [listed_nil (by simp [go_sem, *])]; exact Terms.idle (termsF S) _
  try walk_nrm
  co_applyP r_take (i := 3) rfl (by first | kernel_rfl | decide +kernel) (by first | kernel_rfl | decide +kernel) (by first | kernel_rfl | decide +kernel) (.inl ⟨by rfl, fun _ hw => ⟨run_eq_of ?run3, ?guar3⟩⟩) hF ?rest3
  case run3 =>
    intro K hK
    obtain ⟨dd', hdd⟩ := hw; subst hdd
    go_simp
    exact hK
  case guar3 =>
    obtain ⟨dd', hdd⟩ := hw; subst hdd
    (intro e he; have hm := mem_listed he; simp [go_sem, *] at hm; try (subst hm; exact evF_cell _ _ (hAS _ (addBlk' _ _))))
  try walk_nrm
  co_applyP r_take (i := 4) rfl (by first | kernel_rfl | decide +kernel) (by first | kernel_rfl | decide +kernel) (by first | kernel_rfl | decide +kernel) (.inl ⟨by rfl, fun _ hw => ⟨run_eq_of ?run4, ?guar4⟩⟩) hF ?rest4
  case run4 =>
    intro K hK
    go_simp
    exact hK
  case guar4 =>
    rw [listed_nil (by simp [go_sem])]; exact Terms.idle (termsF S) _
  try walk_nrm
  co_applyP r_take (i := 5) rfl (by first | kernel_rfl | decide +kernel) (by first | kernel_rfl | decide +kernel) (by first | kernel_rfl | decide +kernel) (.inl ⟨by rfl, fun _ hw => ⟨run_eq_of ?run5, ?guar5⟩⟩) hF ?rest5
  case run5 =>
    intro K hK
    go_simp
    exact hK
  case guar5 =>
    rw [listed_nil (by simp [go_sem])]; exact Terms.idle (termsF S) _
  try walk_nrm
  co_applyP r_take (i := 6) rfl (by first | kernel_rfl | decide +kernel) (by first | kernel_rfl | decide +kernel) (by first | kernel_rfl | decide +kernel) (.inl ⟨by rfl, fun _ hw => ⟨run_eq_of ?run6, ?guar6⟩⟩) hF ?rest6
  case run6 =>
    intro K hK
    go_simp
    exact hK
  case guar6 =>
    rw [listed_nil (by simp [go_sem])]; exact Terms.idle (termsF S) _
  try walk_nrm
  co_applyP r_take (i := 7) rfl (by first | kernel_rfl | decide +kernel) (by first | kernel_rfl | decide +kernel) (by first | kernel_rfl | decide +kernel) (.inl ⟨by rfl, fun _ hw => ⟨run_eq_of ?run7, ?guar7⟩⟩) hF ?rest7
  case run7 =>
    intro K hK
    go_simp
    exact hK
  case guar7 =>
    rw [listed_nil (by simp [go_sem, *])]; exact Terms.idle (termsF S) _
  try walk_nrm
  co_applyP r_take (i := 8) rfl (by first | kernel_rfl | decide +kernel) (by first | kernel_rfl | decide +kernel) (by first | kernel_rfl | decide +kernel) (.inl ⟨by rfl, fun _ hw => ⟨run_eq_of ?run8, ?guar8⟩⟩) hF ?rest8
  case run8 =>
    intro K hK
    obtain ⟨dd', hdd⟩ := hw; subst hdd
    go_simp
    exact hK
  case guar8 =>
    obtain ⟨dd', hdd⟩ := hw; subst hdd
    (intro e he; have hm := mem_listed he; simp [go_sem, *] at hm; try (subst hm; exact evF_cell _ _ (hPS _ (addBlk' _ _))))
  try walk_nrm
  co_applyP r_take (i := 9) rfl (by first | kernel_rfl | decide +kernel) (by first | kernel_rfl | decide +kernel) (by first | kernel_rfl | decide +kernel) (.inl ⟨by rfl, fun _ hw => ⟨run_eq_of ?run9, ?guar9⟩⟩) hF ?rest9
  case run9 =>
    intro K hK
    go_simp
    exact hK
  case guar9 =>
    rw [listed_nil (by simp [go_sem, *])]; exact Terms.idle (termsF S) _
  try walk_nrm
  co_applyP r_take (i := 10) rfl (by first | kernel_rfl | decide +kernel) (by first | kernel_rfl | decide +kernel) (by first | kernel_rfl | decide +kernel) (.inl ⟨by rfl, fun _ hw => ⟨run_eq_of ?run10, ?guar10⟩⟩) hF ?rest10
  case run10 =>
    intro K hK
    go_simp
    exact hK
  case guar10 =>
    rw [listed_nil (by simp [go_sem, Builtin.min_, Builtin.min2, *])]; exact Terms.idle (termsF S) _
  try walk_nrm
  have ei : (if (rl : Int) < (k : Int) then (rl : Int) else (k : Int)) = (q : Int) := by have := HQ.out; split <;> omega
  rw [ei]
  clear ei
  co_applyP r_take (i := 11) rfl (by first | kernel_rfl | decide +kernel) (by first | kernel_rfl | decide +kernel) (by first | kernel_rfl | decide +kernel) (.inl ⟨by rfl, fun _ hw => ⟨run_eq_of ?run11, ?guar11⟩⟩) hF ?rest11
  case run11 =>
    intro K hK
    go_simp
    exact hK
  case guar11 =>
    rw [listed_nil (by simp [go_sem, *])]; exact Terms.idle (termsF S) _
  try walk_nrm
  refine anyJ_done (by first | kernel_rfl | decide +kernel) ?_ _
  clear hF
  try simp only [at_at']
  refine r_end ?_
  exact H.out _ _ _ _ _ _ _ _ _ _ _ _ _ _ _ _ _ _ _ _ _ _ _ _ _ _ _ _ _ _ _ _ _ _ _ _ _ _ _ _ _ _ _ _ _ _ _ _ _ _ _ _ _ _ _ _ _ _ _ _ _ _ _ _ _ _ _ _ _ _ _ _ _ _ _ _ _ _ _ _ _ _ _ _ _ _ _ _ _ _ _ _ _ _ _ _ _ _ _ _ _ _ _ _ _ _ _ _ _ _ _ _ _ _ _ _ _ _ _ _ _ _ _ _ _ _ _ _ _
end

noncomputable def c32c : Code := match t32c with | .seq _ c => c | _ => .skip
section
variable {S : Loc → Prop} {cs : List Frame} {X : (Loc → Prop) → Goroutine → World → Prop} {w : World} {n m cp cb : Nat} {zs0 : Value} {b0 p0 : Option Addr} {aa : Addr}
set_option maxHeartbeats 16000000 in
theorem cnt_loop {ts : List Int} {p : Nat} (hm : ts.length = m) (hmax : m ≤ 1152921504606846976) (hb : ∀ (j : Nat) u, ts[j]? = some u → ∃ ad, b0 = some ad ∧ w.cell? (ad.add j) = some (num u)) (hbS : ∀ ad, b0 = some ad → ∀ z : Addr, z.block = ad.block → ¬ S (.cell z))
    (h : ∀ (j2 j3 j7 j8 j9 j10 j12 j13 j17 j18 j19 j20 j21 j22 j23 j24 j25 j26 j27 j28 j29 j30 j31 j32 j33 j34 j35 j36 j37 j38 j39 j40 j41 j42 j43 j44 j45 j46 j47 j48 j49 j50 j51 j52 j53 j54 j55 j56 j57 j58 j59 j60 j61 j62 j63 j64 j65 j66 j67 j68 j69 j70 j71 j72 j73 j74 j75 j76 j77 j78 j79 j80 j81 j82 j83 j84 j85 j86 j87 j88 j89 j90 j91 j92 j93 j94 j95 j96 j97 j98 j99 j100 j101 j102 j103 j104 j105 j106 j107 j108 j109 j110 j111 j112 j113 j114 j115 j116 j117 j118 j119 j120 j121 j122 j123 j124 j125 j126 j127 j128 j129 j130 j131 j132 j133 j134 j135 j136 : Value) (d : Nat), Reach Try.prog S (G ((base 7).at ⟨#[zs0, .slice b0 m cb, j2, j3, .bool false, .bool true, .slice p0 n cp, j7, j8, j9, j10, .slice (some aa) n n, j12, j13, num p, num ((ts.count (p : Int) : Nat) : Int), num m, j17, j18, j19, j20, j21, j22, j23, j24, j25, j26, j27, j28, j29, j30, j31, j32, j33, j34, j35, j36, j37, j38, j39, j40, j41, j42, j43, j44, j45, j46, j47, j48, j49, j50, j51, j52, j53, j54, j55, j56, j57, j58, j59, j60, j61, j62, j63, j64, j65, j66, j67, j68, j69, j70, j71, j72, j73, j74, j75, j76, j77, j78, j79, j80, j81, j82, j83, j84, j85, j86, j87, j88, j89, j90, j91, j92, j93, j94, j95, j96, j97, j98, j99, j100, j101, j102, j103, j104, j105, j106, j107, j108, j109, j110, j111, j112, j113, j114, j115, j116, j117, j118, j119, j120, j121, j122, j123, j124, j125, j126, j127, j128, j129, j130, j131, j132, j133, j134, j135, j136], []⟩ [.code t32c, .inBlock 7, .code post7d, .inLoop L7d, .inBlock 6, .code (tail7 9)]) cs) (w.at d) X) :
    ∀ (k i c : Nat), i + k = m → c = (ts.take i).count (p : Int) → ∀ (j2 j3 j7 j8 j9 j10 j12 j13 j17 j18 j19 j20 j21 j22 j23 j24 j25 j26 j27 j28 j29 j30 j31 j32 j33 j34 j35 j36 j37 j38 j39 j40 j41 j42 j43 j44 j45 j46 j47 j48 j49 j50 j51 j52 j53 j54 j55 j56 j57 j58 j59 j60 j61 j62 j63 j64 j65 j66 j67 j68 j69 j70 j71 j72 j73 j74 j75 j76 j77 j78 j79 j80 j81 j82 j83 j84 j85 j86 j87 j88 j89 j90 j91 j92 j93 j94 j95 j96 j97 j98 j99 j100 j101 j102 j103 j104 j105 j106 j107 j108 j109 j110 j111 j112 j113 j114 j115 j116 j117 j118 j119 j120 j121 j122 j123 j124 j125 j126 j127 j128 j129 j130 j131 j132 j133 j134 j135 j136 : Value) (d : Nat), Reach Try.prog S (G ((base 7).at ⟨#[zs0, .slice b0 m cb, j2, j3, .bool false, .bool true, .slice p0 n cp, j7, j8, j9, j10, .slice (some aa) n n, j12, j13, num p, num c, num i, j17, j18, j19, j20, j21, j22, j23, j24, j25, j26, j27, j28, j29, j30, j31, j32, j33, j34, j35, j36, j37, j38, j39, j40, j41, j42, j43, j44, j45, j46, j47, j48, j49, j50, j51, j52, j53, j54, j55, j56, j57, j58, j59, j60, j61, j62, j63, j64, j65, j66, j67, j68, j69, j70, j71, j72, j73, j74, j75, j76, j77, j78, j79, j80, j81, j82, j83, j84, j85, j86, j87, j88, j89, j90, j91, j92, j93, j94, j95, j96, j97, j98, j99, j100, j101, j102, j103, j104, j105, j106, j107, j108, j109, j110, j111, j112, j113, j114, j115, j116, j117, j118, j119, j120, j121, j122, j123, j124, j125, j126, j127, j128, j129, j130, j131, j132, j133, j134, j135, j136], []⟩ [.code L7n, .inLoop L7n, .inBlock 8, .code t32c, .inBlock 7, .code post7d, .inLoop L7d, .inBlock 6, .code (tail7 9)]) cs) (w.at d) X := by
  intro k
  induction k with
  | zero =>
    intro i c hi hc j2 j3 j7 j8 j9 j10 j12 j13 j17 j18 j19 j20 j21 j22 j23 j24 j25 j26 j27 j28 j29 j30 j31 j32 j33 j34 j35 j36 j37 j38 j39 j40 j41 j42 j43 j44 j45 j46 j47 j48 j49 j50 j51 j52 j53 j54 j55 j56 j57 j58 j59 j60 j61 j62 j63 j64 j65 j66 j67 j68 j69 j70 j71 j72 j73 j74 j75 j76 j77 j78 j79 j80 j81 j82 j83 j84 j85 j86 j87 j88 j89 j90 j91 j92 j93 j94 j95 j96 j97 j98 j99 j100 j101 j102 j103 j104 j105 j106 j107 j108 j109 j110 j111 j112 j113 j114 j115 j116 j117 j118 j119 j120 j121 j122 j123 j124 j125 j126 j127 j128 j129 j130 j131 j132 j133 j134 j135 j136 d
    obtain rfl : i = m := by omega
    rw [List.take_of_length_le (by omega)] at hc
    subst hc
    have H := Lib.hid @h
    clear hb hbS h
    simp only [tail7, body7, L7d, in7d, post7d, L7n, t32c, r32c, Try.f7, Option.getD_some, num]
    refine r_seq ?_
    refine r_seq ?_
    (refine r_region ?_; simp only [List.size_toArray, List.length_cons, List.length_nil, Nat.reduceAdd, Nat.zero_add, List.range, List.range.loop])
    repeat (refine r_op rfl rfl (by decide) (fun w₁ h₁ K hK => ?_); obtain ⟨dd, hdd⟩ := h₁; subst hdd; (try simp only [at_at', alloc_at']); go_simp
            refine hK _ _ ⟨fun e he => (by have hm := mem_listed he; clear hK he; simp [go_sem] at hm), ?_⟩; clear hK K; try walk_nrm)
    refine r_end ?_
    refine r_cond (t := false) (by simp [Act.eval]) ?_; simp only [if_true, if_false, Bool.false_eq_true, ↓reduceIte]
    refine r_exit rfl ?_
    have l := H.out
    simp only [tail7, body7, L7d, in7d, post7d, L7n, t32c, r32c, Try.f7, Option.getD_some, num] at l
    exact l _ _ _ _ _ _ _ _ _ _ _ _ _ _ _ _ _ _ _ _ _ _ _ _ _ _ _ _ _ _ _ _ _ _ _ _ _ _ _ _ _ _ _ _ _ _ _ _ _ _ _ _ _ _ _ _ _ _ _ _ _ _ _ _ _ _ _ _ _ _ _ _ _ _ _ _ _ _ _ _ _ _ _ _ _ _ _ _ _ _ _ _ _ _ _ _ _ _ _ _ _ _ _ _ _ _ _ _ _ _ _ _ _ _ _ _ _ _ _ _ _ _ _ _ _ _ _ _ _
  | succ k ih =>
    intro i c hi hc j2 j3 j7 j8 j9 j10 j12 j13 j17 j18 j19 j20 j21 j22 j23 j24 j25 j26 j27 j28 j29 j30 j31 j32 j33 j34 j35 j36 j37 j38 j39 j40 j41 j42 j43 j44 j45 j46 j47 j48 j49 j50 j51 j52 j53 j54 j55 j56 j57 j58 j59 j60 j61 j62 j63 j64 j65 j66 j67 j68 j69 j70 j71 j72 j73 j74 j75 j76 j77 j78 j79 j80 j81 j82 j83 j84 j85 j86 j87 j88 j89 j90 j91 j92 j93 j94 j95 j96 j97 j98 j99 j100 j101 j102 j103 j104 j105 j106 j107 j108 j109 j110 j111 j112 j113 j114 j115 j116 j117 j118 j119 j120 j121 j122 j123 j124 j125 j126 j127 j128 j129 j130 j131 j132 j133 j134 j135 j136 d
    have hlt : i < m := by omega
    have hlt' : (i : Int) < (m : Int) := by omega
    have ew : IntKind.i64.wrap ((i : Int) + 1) = ((i + 1 : Nat) : Int) := by rw [IntKind.wrap_i64]; omega
    obtain ⟨u, hu⟩ : ∃ u, ts[i]? = some u := ⟨_, List.getElem?_eq_getElem (by omega)⟩
    obtain ⟨ad, rfl, hcu⟩ := hb i u hu
    have hclear := hbS ad rfl
    have hcm : c ≤ i := by rw [hc]; exact Nat.le_trans List.count_le_length (by simp; omega)
    have ec : IntKind.i64.wrap ((c : Int) + 1) = ((c + 1 : Nat) : Int) := by rw [IntKind.wrap_i64]; omega
    have ht : (ts.take (i + 1)).count (p : Int) = c + if u = (p : Int) then 1 else 0 := by
      rw [List.take_add_one, hu, Option.toList_some, List.count_append, ← hc, List.count_singleton]
      simp only [beq_iff_eq]
    have IH := Lib.hid @ih
    clear hb hbS h ih hu hc hcm
    by_cases hup : u = (p : Int)
    · subst hup
      rw [if_pos rfl] at ht
      have HT := Lib.hid ht.symm
      clear ht
      simp only [tail7, body7, L7d, in7d, post7d, L7n, t32c, r32c, Try.f7, Option.getD_some, num] at hcu ⊢
      refine r_seq ?_
      refine r_seq ?_
      (refine r_region ?_; simp only [List.size_toArray, List.length_cons, List.length_nil, Nat.reduceAdd, Nat.zero_add, List.range, List.range.loop])
      repeat (refine r_op rfl rfl (by decide) (fun w₁ h₁ K hK => ?_); obtain ⟨dd, hdd⟩ := h₁; subst hdd; (try simp only [at_at', alloc_at']); go_simp
              refine hK _ _ ⟨fun e he => (by have hm := mem_listed he; clear hK he; simp [go_sem] at hm), ?_⟩; clear hK K; try walk_nrm)
      refine r_end ?_
      refine r_cond (t := true) (by simp [Act.eval, hlt, hlt']) ?_; simp only [if_true, if_false, Bool.false_eq_true, ↓reduceIte]
      refine r_skip ?_
      repeat (first
      | refine r_end ?_ | refine r_skip ?_ | (refine r_region ?_; simp only [List.size_toArray, List.length_cons, List.length_nil, Nat.reduceAdd, Nat.zero_add, List.range, List.range.loop])
      | (refine r_cond (t := true) (by simp [Act.eval]) ?_; simp only [if_true, if_false, Bool.false_eq_true, ↓reduceIte])
      | refine r_seq ?_ | refine r_block ?_ | refine r_inBlock ?_
      | (refine r_op rfl rfl (by decide) (fun w₁ h₁ K hK => ?_); obtain ⟨dd, hdd⟩ := h₁; subst hdd; (try simp only [at_at', alloc_at']); go_simp
         refine hK _ _ ⟨fun e he => (by have hm := mem_listed he; clear hK he; simp [go_sem, *] at hm; first | done | (subst hm; exact evF_cell _ _ (hclear _ (addBlk' _ _)))), ?_⟩; clear hK K; try walk_nrm))
      refine r_inLoop ?_
      have l := IH.out (i + 1) (c + 1) (by omega) HT.out
      simp only [tail7, body7, L7d, in7d, post7d, L7n, t32c, r32c, Try.f7, Option.getD_some, num] at l
      exact l _ _ _ _ _ _ _ _ _ _ _ _ _ _ _ _ _ _ _ _ _ _ _ _ _ _ _ _ _ _ _ _ _ _ _ _ _ _ _ _ _ _ _ _ _ _ _ _ _ _ _ _ _ _ _ _ _ _ _ _ _ _ _ _ _ _ _ _ _ _ _ _ _ _ _ _ _ _ _ _ _ _ _ _ _ _ _ _ _ _ _ _ _ _ _ _ _ _ _ _ _ _ _ _ _ _ _ _ _ _ _ _ _ _ _ _ _ _ _ _ _ _ _ _ _ _ _ _ _
    · rw [if_neg hup, Nat.add_zero] at ht
      have HT := Lib.hid ht.symm
      clear ht
      simp only [tail7, body7, L7d, in7d, post7d, L7n, t32c, r32c, Try.f7, Option.getD_some, num] at hcu ⊢
      refine r_seq ?_
      refine r_seq ?_
      (refine r_region ?_; simp only [List.size_toArray, List.length_cons, List.length_nil, Nat.reduceAdd, Nat.zero_add, List.range, List.range.loop])
      repeat (refine r_op rfl rfl (by decide) (fun w₁ h₁ K hK => ?_); obtain ⟨dd, hdd⟩ := h₁; subst hdd; (try simp only [at_at', alloc_at']); go_simp
              refine hK _ _ ⟨fun e he => (by have hm := mem_listed he; clear hK he; simp [go_sem] at hm), ?_⟩; clear hK K; try walk_nrm)
      refine r_end ?_
      refine r_cond (t := true) (by simp [Act.eval, hlt, hlt']) ?_; simp only [if_true, if_false, Bool.false_eq_true, ↓reduceIte]
      refine r_skip ?_
      repeat (first
      | refine r_end ?_ | refine r_skip ?_ | (refine r_region ?_; simp only [List.size_toArray, List.length_cons, List.length_nil, Nat.reduceAdd, Nat.zero_add, List.range, List.range.loop])
      | (refine r_cond (t := false) (by simp [Act.eval, hup]) ?_; simp only [if_true, if_false, Bool.false_eq_true, ↓reduceIte])
      | refine r_seq ?_ | refine r_block ?_ | refine r_inBlock ?_
      | (refine r_op rfl rfl (by decide) (fun w₁ h₁ K hK => ?_); obtain ⟨dd, hdd⟩ := h₁; subst hdd; (try simp only [at_at', alloc_at']); go_simp
         refine hK _ _ ⟨fun e he => (by have hm := mem_listed he; clear hK he; simp [go_sem, *] at hm; first | done | (subst hm; exact evF_cell _ _ (hclear _ (addBlk' _ _)))), ?_⟩; clear hK K; try walk_nrm))
      refine r_inLoop ?_
      have l := IH.out (i + 1) c (by omega) HT.out
      simp only [tail7, body7, L7d, in7d, post7d, L7n, t32c, r32c, Try.f7, Option.getD_some, num] at l
      exact l _ _ _ _ _ _ _ _ _ _ _ _ _ _ _ _ _ _ _ _ _ _ _ _ _ _ _ _ _ _ _ _ _ _ _ _ _ _ _ _ _ _ _ _ _ _ _ _ _ _ _ _ _ _ _ _ _ _ _ _ _ _ _ _ _ _ _ _ _ _ _ _ _ _ _ _ _ _ _ _ _ _ _ _ _ _ _ _ _ _ _ _ _ _ _ _ _ _ _ _ _ _ _ _ _ _ _ _ _ _ _ _ _ _ _ _ _ _ _ _ _ _ _ _ _ _ _ _ _

set_option maxHeartbeats 16000000 in
theorem end_loop {A : Nat} {ps : List (List Int)} {hd : Nat → Value} {L ts : List Int} (haa : aa = ⟨A, 0, none⟩) (hn : ps.length = n) (hn64 : n ≤ 64) (hm : ts.length = m) (hmax : m ≤ 1000000000000000000) (hb : ∀ (j : Nat) u, ts[j]? = some u → ∃ ad, b0 = some ad ∧ w.cell? (ad.add j) = some (num u)) (hbS : ∀ ad, b0 = some ad → ∀ z : Addr, z.block = ad.block → ¬ S (.cell z))
    (hP : PartsAt S w p0 ps hd) (hA : AtRow w A (cntsL n L)) (hAS : ∀ z : Addr, z.block = A → ¬ S (.cell z)) (hlaw : ∀ (p : Nat) (row : List Int), ps[p]? = some row → cntL p L = min (ts.count (p : Int)) row.length)
    (h : ∀ (j2 j3 j7 j8 j9 j10 j12 j13 j15 j16 j17 j18 j19 j20 j21 j22 j23 j24 j25 j26 j27 j28 j29 j30 j31 j32 j33 j34 j35 j36 j37 j38 j39 j40 j41 j42 j43 j44 j45 j46 j47 j48 j49 j50 j51 j52 j53 j54 j55 j56 j57 j58 j59 j60 j61 j62 j63 j64 j65 j66 j67 j68 j69 j70 j71 j72 j73 j74 j75 j76 j77 j78 j79 j80 j81 j82 j83 j84 j85 j86 j87 j88 j89 j90 j91 j92 j93 j94 j95 j96 j97 j98 j99 j100 j101 j102 j103 j104 j105 j106 j107 j108 j109 j110 j111 j112 j113 j114 j115 j116 j117 j118 j119 j120 j121 j122 j123 j124 j125 j126 j127 j128 j129 j130 j131 j132 j133 j134 j135 j136 : Value) (d : Nat), Reach Try.prog S (G ((base 7).at ⟨#[zs0, .slice b0 m cb, j2, j3, .bool false, .bool true, .slice p0 n cp, j7, j8, j9, j10, .slice (some aa) n n, j12, j13, num n, j15, j16, j17, j18, j19, j20, j21, j22, j23, j24, j25, j26, j27, j28, j29, j30, j31, j32, j33, j34, j35, j36, j37, j38, j39, j40, j41, j42, j43, j44, j45, j46, j47, j48, j49, j50, j51, j52, j53, j54, j55, j56, j57, j58, j59, j60, j61, j62, j63, j64, j65, j66, j67, j68, j69, j70, j71, j72, j73, j74, j75, j76, j77, j78, j79, j80, j81, j82, j83, j84, j85, j86, j87, j88, j89, j90, j91, j92, j93, j94, j95, j96, j97, j98, j99, j100, j101, j102, j103, j104, j105, j106, j107, j108, j109, j110, j111, j112, j113, j114, j115, j116, j117, j118, j119, j120, j121, j122, j123, j124, j125, j126, j127, j128, j129, j130, j131, j132, j133, j134, j135, j136], []⟩ [.code (tail7 9)]) cs) (w.at d) X) :
    ∀ (k p : Nat), p + k = n → ∀ (j2 j3 j7 j8 j9 j10 j12 j13 j15 j16 j17 j18 j19 j20 j21 j22 j23 j24 j25 j26 j27 j28 j29 j30 j31 j32 j33 j34 j35 j36 j37 j38 j39 j40 j41 j42 j43 j44 j45 j46 j47 j48 j49 j50 j51 j52 j53 j54 j55 j56 j57 j58 j59 j60 j61 j62 j63 j64 j65 j66 j67 j68 j69 j70 j71 j72 j73 j74 j75 j76 j77 j78 j79 j80 j81 j82 j83 j84 j85 j86 j87 j88 j89 j90 j91 j92 j93 j94 j95 j96 j97 j98 j99 j100 j101 j102 j103 j104 j105 j106 j107 j108 j109 j110 j111 j112 j113 j114 j115 j116 j117 j118 j119 j120 j121 j122 j123 j124 j125 j126 j127 j128 j129 j130 j131 j132 j133 j134 j135 j136 : Value) (d : Nat), Reach Try.prog S (G ((base 7).at ⟨#[zs0, .slice b0 m cb, j2, j3, .bool false, .bool true, .slice p0 n cp, j7, j8, j9, j10, .slice (some aa) n n, j12, j13, num p, j15, j16, j17, j18, j19, j20, j21, j22, j23, j24, j25, j26, j27, j28, j29, j30, j31, j32, j33, j34, j35, j36, j37, j38, j39, j40, j41, j42, j43, j44, j45, j46, j47, j48, j49, j50, j51, j52, j53, j54, j55, j56, j57, j58, j59, j60, j61, j62, j63, j64, j65, j66, j67, j68, j69, j70, j71, j72, j73, j74, j75, j76, j77, j78, j79, j80, j81, j82, j83, j84, j85, j86, j87, j88, j89, j90, j91, j92, j93, j94, j95, j96, j97, j98, j99, j100, j101, j102, j103, j104, j105, j106, j107, j108, j109, j110, j111, j112, j113, j114, j115, j116, j117, j118, j119, j120, j121, j122, j123, j124, j125, j126, j127, j128, j129, j130, j131, j132, j133, j134, j135, j136], []⟩ [.code L7d, .inLoop L7d, .inBlock 6, .code (tail7 9)]) cs) (w.at d) X := by
  intro k
  induction k with
  | zero =>
    intro p hp j2 j3 j7 j8 j9 j10 j12 j13 j15 j16 j17 j18 j19 j20 j21 j22 j23 j24 j25 j26 j27 j28 j29 j30 j31 j32 j33 j34 j35 j36 j37 j38 j39 j40 j41 j42 j43 j44 j45 j46 j47 j48 j49 j50 j51 j52 j53 j54 j55 j56 j57 j58 j59 j60 j61 j62 j63 j64 j65 j66 j67 j68 j69 j70 j71 j72 j73 j74 j75 j76 j77 j78 j79 j80 j81 j82 j83 j84 j85 j86 j87 j88 j89 j90 j91 j92 j93 j94 j95 j96 j97 j98 j99 j100 j101 j102 j103 j104 j105 j106 j107 j108 j109 j110 j111 j112 j113 j114 j115 j116 j117 j118 j119 j120 j121 j122 j123 j124 j125 j126 j127 j128 j129 j130 j131 j132 j133 j134 j135 j136 d
    obtain rfl : p = n := by omega
    have H := Lib.hid @h
    clear haa hb hbS hP hA hAS hlaw h
    simp only [tail7, body7, L7d, in7d, post7d, L7n, t32c, r32c, Try.f7, Option.getD_some, num]
    refine r_seq ?_
    refine r_seq ?_
    (refine r_region ?_; simp only [List.size_toArray, List.length_cons, List.length_nil, Nat.reduceAdd, Nat.zero_add, List.range, List.range.loop])
    repeat (refine r_op rfl rfl (by decide) (fun w₁ h₁ K hK => ?_); obtain ⟨dd, hdd⟩ := h₁; subst hdd; (try simp only [at_at', alloc_at']); go_simp
            refine hK _ _ ⟨fun e he => (by have hm := mem_listed he; clear hK he; simp [go_sem] at hm), ?_⟩; clear hK K; try walk_nrm)
    refine r_end ?_
    refine r_cond (t := false) (by simp [Act.eval]) ?_; simp only [if_true, if_false, Bool.false_eq_true, ↓reduceIte]
    refine r_exit rfl ?_
    have l := H.out
    simp only [tail7, body7, L7d, in7d, post7d, L7n, t32c, r32c, Try.f7, Option.getD_some, num] at l
    exact l _ _ _ _ _ _ _ _ _ _ _ _ _ _ _ _ _ _ _ _ _ _ _ _ _ _ _ _ _ _ _ _ _ _ _ _ _ _ _ _ _ _ _ _ _ _ _ _ _ _ _ _ _ _ _ _ _ _ _ _ _ _ _ _ _ _ _ _ _ _ _ _ _ _ _ _ _ _ _ _ _ _ _ _ _ _ _ _ _ _ _ _ _ _ _ _ _ _ _ _ _ _ _ _ _ _ _ _ _ _ _ _ _ _ _ _ _ _ _ _ _ _ _ _ _ _ _ _ _ _ _
  | succ k ih =>
    intro p hp j2 j3 j7 j8 j9 j10 j12 j13 j15 j16 j17 j18 j19 j20 j21 j22 j23 j24 j25 j26 j27 j28 j29 j30 j31 j32 j33 j34 j35 j36 j37 j38 j39 j40 j41 j42 j43 j44 j45 j46 j47 j48 j49 j50 j51 j52 j53 j54 j55 j56 j57 j58 j59 j60 j61 j62 j63 j64 j65 j66 j67 j68 j69 j70 j71 j72 j73 j74 j75 j76 j77 j78 j79 j80 j81 j82 j83 j84 j85 j86 j87 j88 j89 j90 j91 j92 j93 j94 j95 j96 j97 j98 j99 j100 j101 j102 j103 j104 j105 j106 j107 j108 j109 j110 j111 j112 j113 j114 j115 j116 j117 j118 j119 j120 j121 j122 j123 j124 j125 j126 j127 j128 j129 j130 j131 j132 j133 j134 j135 j136 d
    have hlt : p < n := by omega
    have hlt' : (p : Int) < (n : Int) := by omega
    have ew : IntKind.i64.wrap ((p : Int) + 1) = ((p + 1 : Nat) : Int) := by rw [IntKind.wrap_i64]; omega
    obtain ⟨row, hrow⟩ : ∃ row, ps[p]? = some row := ⟨_, List.getElem?_eq_getElem (by omega)⟩
    obtain ⟨pd, rfl, hp0⟩ := hP.cell p (by omega)
    obtain ⟨r0, rc, hrv, _⟩ := hP.row p row hrow
    rw [hrv] at hp0
    obtain ⟨hAc, _⟩ := hA.cell (cnts_get (n := n) (L := L) hlt)
    rw [← haa] at hAc
    have haS : ∀ z : Addr, z.block = aa.block → ¬ S (.cell z) := fun z hz => hAS z (by rw [hz, haa])
    have hq := hlaw p row hrow
    have hct : ts.count (p : Int) ≤ ts.length := List.count_le_length
    have IH := Lib.hid @ih
    have fin : ∀ (j2 j3 j7 j8 j9 j10 j12 j13 j16 j17 j18 j19 j20 j21 j22 j23 j24 j25 j26 j27 j28 j29 j30 j31 j32 j33 j34 j35 j36 j37 j38 j39 j40 j41 j42 j43 j44 j45 j46 j47 j48 j49 j50 j51 j52 j53 j54 j55 j56 j57 j58 j59 j60 j61 j62 j63 j64 j65 j66 j67 j68 j69 j70 j71 j72 j73 j74 j75 j76 j77 j78 j79 j80 j81 j82 j83 j84 j85 j86 j87 j88 j89 j90 j91 j92 j93 j94 j95 j96 j97 j98 j99 j100 j101 j102 j103 j104 j105 j106 j107 j108 j109 j110 j111 j112 j113 j114 j115 j116 j117 j118 j119 j120 j121 j122 j123 j124 j125 j126 j127 j128 j129 j130 j131 j132 j133 j134 j136 : Value) (d : Nat), Reach Try.prog S (G ((base 7).at ⟨#[zs0, .slice b0 m cb, j2, j3, .bool false, .bool true, .slice (some pd) n cp, j7, j8, j9, j10, .slice (some aa) n n, j12, j13, num p, num ((ts.count (p : Int) : Nat) : Int), j16, j17, j18, j19, j20, j21, j22, j23, j24, j25, j26, j27, j28, j29, j30, j31, j32, j33, j34, j35, j36, j37, j38, j39, j40, j41, j42, j43, j44, j45, j46, j47, j48, j49, j50, j51, j52, j53, j54, j55, j56, j57, j58, j59, j60, j61, j62, j63, j64, j65, j66, j67, j68, j69, j70, j71, j72, j73, j74, j75, j76, j77, j78, j79, j80, j81, j82, j83, j84, j85, j86, j87, j88, j89, j90, j91, j92, j93, j94, j95, j96, j97, j98, j99, j100, j101, j102, j103, j104, j105, j106, j107, j108, j109, j110, j111, j112, j113, j114, j115, j116, j117, j118, j119, j120, j121, j122, j123, j124, j125, j126, j127, j128, j129, j130, j131, j132, j133, j134, .bool false, j136], []⟩ [.code c32c, .inBlock 7, .code post7d, .inLoop L7d, .inBlock 6, .code (tail7 9)]) cs) (w.at d) X := by
      clear haa hb hbS hP hA hAS hlaw h ih hAc hp0 hq hct haS
      intro j2 j3 j7 j8 j9 j10 j12 j13 j16 j17 j18 j19 j20 j21 j22 j23 j24 j25 j26 j27 j28 j29 j30 j31 j32 j33 j34 j35 j36 j37 j38 j39 j40 j41 j42 j43 j44 j45 j46 j47 j48 j49 j50 j51 j52 j53 j54 j55 j56 j57 j58 j59 j60 j61 j62 j63 j64 j65 j66 j67 j68 j69 j70 j71 j72 j73 j74 j75 j76 j77 j78 j79 j80 j81 j82 j83 j84 j85 j86 j87 j88 j89 j90 j91 j92 j93 j94 j95 j96 j97 j98 j99 j100 j101 j102 j103 j104 j105 j106 j107 j108 j109 j110 j111 j112 j113 j114 j115 j116 j117 j118 j119 j120 j121 j122 j123 j124 j125 j126 j127 j128 j129 j130 j131 j132 j133 j134 j136 d
      simp only [c32c, tail7, body7, L7d, in7d, post7d, L7n, t32c, r32c, Try.f7, Option.getD_some, num]
      repeat (first
      | refine r_end ?_ | refine r_skip ?_ | (refine r_region ?_; simp only [List.size_toArray, List.length_cons, List.length_nil, Nat.reduceAdd, Nat.zero_add, List.range, List.range.loop])
      | (refine r_cond (t := false) (by simp [Act.eval]) ?_; simp only [if_true, if_false, Bool.false_eq_true, ↓reduceIte])
      | refine r_seq ?_ | refine r_block ?_ | refine r_inBlock ?_
      | (refine r_op rfl rfl (by decide) (fun w₁ h₁ K hK => ?_); obtain ⟨dd, hdd⟩ := h₁; subst hdd; (try simp only [at_at', alloc_at']); go_simp
         refine hK _ _ ⟨fun e he => (by have hm := mem_listed he; clear hK he; simp [go_sem, *] at hm; first | done | (subst hm; exact evF_cell _ _ (hclear _ (addBlk' _ _)))), ?_⟩; clear hK K; try walk_nrm))
      refine r_inLoop ?_
      have l := IH.out (p + 1) (by omega)
      simp only [tail7, body7, L7d, in7d, post7d, L7n, t32c, r32c, Try.f7, Option.getD_some, num] at l
      exact l _ _ _ _ _ _ _ _ _ _ _ _ _ _ _ _ _ _ _ _ _ _ _ _ _ _ _ _ _ _ _ _ _ _ _ _ _ _ _ _ _ _ _ _ _ _ _ _ _ _ _ _ _ _ _ _ _ _ _ _ _ _ _ _ _ _ _ _ _ _ _ _ _ _ _ _ _ _ _ _ _ _ _ _ _ _ _ _ _ _ _ _ _ _ _ _ _ _ _ _ _ _ _ _ _ _ _ _ _ _ _ _ _ _ _ _ _ _ _ _ _ _ _ _ _ _ _ _ _ _ _
    have mt := min_test (cs := cs) (X := X) (m := m) (cp := cp) (cb := cb) (zs0 := zs0) (b0 := b0) hlt (by omega) hq hAc hp0 haS (hP.clear pd rfl) fin
    have cl := cnt_loop (cs := cs) (X := X) (n := n) (cp := cp) (cb := cb) (zs0 := zs0) (p0 := some pd) (aa := aa) (p := p) hm (by omega) hb hbS (fun j2 j3 j7 j8 j9 j10 j12 j13 j17 j18 j19 j20 j21 j22 j23 j24 j25 j26 j27 j28 j29 j30 j31 j32 j33 j34 j35 j36 j37 j38 j39 j40 j41 j42 j43 j44 j45 j46 j47 j48 j49 j50 j51 j52 j53 j54 j55 j56 j57 j58 j59 j60 j61 j62 j63 j64 j65 j66 j67 j68 j69 j70 j71 j72 j73 j74 j75 j76 j77 j78 j79 j80 j81 j82 j83 j84 j85 j86 j87 j88 j89 j90 j91 j92 j93 j94 j95 j96 j97 j98 j99 j100 j101 j102 j103 j104 j105 j106 j107 j108 j109 j110 j111 j112 j113 j114 j115 j116 j117 j118 j119 j120 j121 j122 j123 j124 j125 j126 j127 j128 j129 j130 j131 j132 j133 j134 j135 j136 d => by
      have l := mt
      clear mt fin haa hb hbS hP hA hAS hlaw h ih hAc hp0 hq hct haS
      have L' := Lib.hid @l
      clear l
      have l := L'.out
      simp only [c32c, tail7, body7, L7d, in7d, post7d, L7n, t32c, r32c, Try.f7, Option.getD_some, num] at l ⊢
      refine r_seq ?_
      exact l _ _ _ _ _ _ _ _ _ _ _ _ _ _ _ _ _ _ _ _ _ _ _ _ _ _ _ _ _ _ _ _ _ _ _ _ _ _ _ _ _ _ _ _ _ _ _ _ _ _ _ _ _ _ _ _ _ _ _ _ _ _ _ _ _ _ _ _ _ _ _ _ _ _ _ _ _ _ _ _ _ _ _ _ _ _ _ _ _ _ _ _ _ _ _ _ _ _ _ _ _ _ _ _ _ _ _ _ _ _ _ _ _ _ _ _ _ _ _ _ _ _ _ _ _ _ _ _ _ _) m 0 0 (by omega) (by simp)
    have CL := Lib.hid @cl
    clear cl mt fin haa hb hbS hP hA hAS hlaw h ih hAc hp0 hq hct haS
    simp only [tail7, body7, L7d, in7d, post7d, L7n, t32c, r32c, Try.f7, Option.getD_some, num]
    refine r_seq ?_
    refine r_seq ?_
    (refine r_region ?_; simp only [List.size_toArray, List.length_cons, List.length_nil, Nat.reduceAdd, Nat.zero_add, List.range, List.range.loop])
    repeat (refine r_op rfl rfl (by decide) (fun w₁ h₁ K hK => ?_); obtain ⟨dd, hdd⟩ := h₁; subst hdd; (try simp only [at_at', alloc_at']); go_simp
            refine hK _ _ ⟨fun e he => (by have hm := mem_listed he; clear hK he; simp [go_sem] at hm), ?_⟩; clear hK K; try walk_nrm)
    refine r_end ?_
    refine r_cond (t := true) (by simp [Act.eval, hlt, hlt']) ?_; simp only [if_true, if_false, Bool.false_eq_true, ↓reduceIte]
    refine r_skip ?_
    repeat (first
      | refine r_end ?_ | refine r_skip ?_ | (refine r_region ?_; simp only [List.size_toArray, List.length_cons, List.length_nil, Nat.reduceAdd, Nat.zero_add, List.range, List.range.loop])
      | refine r_seq ?_ | refine r_block ?_ | refine r_inBlock ?_
      | (refine r_op rfl rfl (by decide) (fun w₁ h₁ K hK => ?_); obtain ⟨dd, hdd⟩ := h₁; subst hdd; (try simp only [at_at', alloc_at']); go_simp
         refine hK _ _ ⟨fun e he => (by have hm := mem_listed he; clear hK he; simp [go_sem, *] at hm; first | done | (subst hm; exact evF_cell _ _ (hclear _ (addBlk' _ _)))), ?_⟩; clear hK K; try walk_nrm))
    refine r_loop ?_
    have l := CL.out
    simp only [tail7, body7, L7d, in7d, post7d, L7n, t32c, r32c, Try.f7, Option.getD_some, num] at l
    exact l _ _ _ _ _ _ _ _ _ _ _ _ _ _ _ _ _ _ _ _ _ _ _ _ _ _ _ _ _ _ _ _ _ _ _ _ _ _ _ _ _ _ _ _ _ _ _ _ _ _ _ _ _ _ _ _ _ _ _ _ _ _ _ _ _ _ _ _ _ _ _ _ _ _ _ _ _ _ _ _ _ _ _ _ _ _ _ _ _ _ _ _ _ _ _ _ _ _ _ _ _ _ _ _ _ _ _ _ _ _ _ _ _ _ _ _ _ _ _ _ _ _ _ _ _ _ _ _ _
end
end Go.Proofs.Ytdpagejckahkkaa.Net
