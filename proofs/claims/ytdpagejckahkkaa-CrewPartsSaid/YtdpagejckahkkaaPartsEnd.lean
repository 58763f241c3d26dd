/- CrewParts returns true: of each part Merge takes a beginning, in its order, as many as there are turns of it, as far as it goes. · CrewParts returns true: the law. -/
import Derived.Test.YtdpagejckahkkaaPartsThird
import Derived.Test.YtdpagejckahkkaaArgs
set_option linter.unusedSimpArgs false
set_option linter.unusedVariables false
set_option maxRecDepth 100000
namespace Go.Proofs.Ytdpagejckahkkaa
open Go Go.Conc Go.RowKit Net Go.ChangeShapes Go.WideShapes Go.ChangeAt

theorem ms22 (n : Nat) (hn : n ≤ 64) : (∀ w : World, (Instr.makeSlice 22 (.int .i64 (n : Int)) (.int .i64 (n : Int))).run Try.prog w = .ok (.slice (some ⟨w.heap.size, 0, none⟩) n n) (w.alloc (.cells (madeCells #[.int .i64 0] n) 3))) ∧ ∀ (w : World) es, (Instr.makeSlice 22 (.int .i64 (n : Int)) (.int .i64 (n : Int))).events Try.prog w es = es := by
  obtain ⟨i, hi, hz, hs, hby⟩ := info_parts Try.info3
  refine ⟨fun w => ?_, fun w es => ?_⟩
  · have := run_make (P := Try.prog) w 22 3 i (.int .i64 0) Try.underlying22 hi hz .i64 .i64 n n (by omega) (Int.le_refl _) (by rw [hby]; omega) (by omega)
    rw [hs] at this
    simpa [Value.cells] using this
  · exact events_make (P := Try.prog) w 22 3 i (.int .i64 0) Try.underlying22 hi hz .i64 .i64 n n (by omega) (Int.le_refl _) (by rw [hby]; omega) (by omega) (by rw [hby]; simp; omega) es
theorem zeros_at (w : World) (n : Nat) : AtRow (w.alloc (.cells (madeCells #[.int .i64 0] n) 3)) w.heap.size (cntsL n []) := by
  unfold AtRow
  rw [World.alloc_heap_new]
  have e : madeCells #[.int .i64 0] n = ((cntsL n []).map num).toArray := by
    apply Array.toList_inj.1
    rw [toList_madeCells_one]
    refine List.ext_getElem? fun j => ?_
    by_cases hj : j < n
    · simp [cntsL, cntL, List.getElem?_replicate, hj, num]
    · simp [cntsL, cntL, List.getElem?_replicate, hj]
  rw [e]

theorem Cop.heldS {S : Loc → Prop} {W0 w : World} {ps : List (List Int)} {p : Value} (h : Cop W0 ps ps.length p w) (hS : SL S W0) (hlen : ∀ xs ∈ ps, xs.length ≤ 40) : ∃ p0 cp hd, p = .slice p0 ps.length cp ∧ HeldP S w p0 ps hd := by
  obtain ⟨hg, hs, hl, hown, h1, hrow⟩ := h
  have hlow : ∀ (j : Nat) xs, ps[j]? = some xs → w.ownsRow W0.heap.size 3 1 (hs.getD j undef) xs.length (xs.map num) := fun j xs hj => by
    have : j < hs.length := by rw [hl]; exact (List.getElem?_eq_some_iff.1 hj).1
    have e := List.getElem?_eq_getElem this
    simpa [List.getD, e] using (hrow j _ xs e hj).1
  have hrows : ∀ j xs, ps[j]? = some xs → IntsAt S w (hs.getD j undef) xs := fun j xs hj => IntsAt.own (hlow j xs hj) (fun x hx => hS.new x hx) (by have := hlen xs (List.mem_of_getElem? hj); omega)
  have hlo : ∀ j xs, ps[j]? = some xs → ∀ k, (hs.getD j undef).ownBlock = some k → k < w.heap.size := fun j xs hj k hk => ((hlow j xs hj).lt k hk).2
  rcases hown.2 with ⟨rfl, e0⟩ | ⟨g, cap, cur, rfl, hb, hgg, _⟩
  · exact ⟨none, 0, fun j => hs.getD j undef, by rw [e0], ⟨⟨(fun j hj => by omega), (fun ad e => by cases e), hrows⟩, (fun ad e => by cases e), hlo⟩⟩
  · refine ⟨some ⟨g, 0, none⟩, cap, fun j => hs.getD j undef, rfl, ⟨⟨fun j hj => ⟨_, rfl, ?_⟩, fun ad e x hx => hS.new x (by cases e; rw [hx]; exact hb), hrows⟩, (fun ad e => by cases e; exact (hown.lt g rfl).2), hlo⟩⟩
    have : j < hs.length := by omega
    exact hown.cells (g := g) rfl j _ (by simp [List.getD, this])

theorem parts_len {zs : List Int} : ∀ row ∈ partsL zs, row.length ≤ 40 := fun row h => by
  obtain ⟨p, hp⟩ := List.getElem?_of_mem h
  obtain ⟨m, hm, rfl⟩ := partsL_row hp
  rw [rowL_length]
  omega
theorem taken_in {zs ts : List Int} (h64 : zs.length ≤ 64) : ∀ x ∈ mergeR (partsL zs) ts, InR x := fun x h => by
  obtain ⟨i, hi⟩ := List.getElem?_of_mem h
  obtain ⟨p, row, hp, _, _, hx⟩ := (parts_begun h64 ts).2 i x hi
  obtain ⟨m, hm, rfl⟩ := partsL_row hp
  obtain ⟨hc, e⟩ := rowL_get hx
  have hpl := (List.getElem?_eq_some_iff.1 hp).1
  rw [partsL_length] at hpl
  unfold InR
  omega
theorem taken_le (ps : List (List Int)) (ts : List Int) : (mergeR ps ts).length ≤ ts.length := by
  unfold mergeR
  split
  · simp
  · exact steps_length ps ts ts.length

set_option maxHeartbeats 16000000 in
theorem parts_rest {S : Loc → Prop} (W w1 : World) {p0 b0 : Option Addr} {cp cb n m : Nat} {zs0 : Value} {zs ts : List Int} {hd : Nat → Value} (hn : (partsL zs).length = n) (hm : ts.length = m) (h64 : zs.length ≤ 64) (hn64 : n ≤ 64) (hS : SL S w1) (hP : HeldP S w1 p0 (partsL zs) hd) (hT : Held S w1 (.slice b0 m cb) ts) (hlt : m * 8 ≤ 140737488351232) (hG : W.grownBy w1 none) :
    ∀ (j2 j3 j8 j9 j10 j11 j12 j13 j14 j15 j16 j17 j18 j19 j20 j21 j22 j23 j24 j25 j26 j27 j28 j29 j30 j31 j32 j33 j34 j35 j36 j37 j38 j39 j40 j41 j42 j43 j44 j45 j46 j47 j48 j49 j50 j51 j52 j53 j54 j55 j56 j57 j58 j59 j60 j61 j62 j63 j64 j65 j66 j67 j68 j69 j70 j71 j72 j73 j74 j75 j76 j77 j78 j79 j80 j81 j82 j83 j84 j85 j86 j87 j88 j89 j90 j91 j92 j93 j94 j95 j96 j97 j98 j99 j100 j101 j102 j103 j104 j105 j106 j107 j108 j109 j110 j111 j112 j113 j114 j115 j116 j117 j118 j119 j120 j121 j122 j123 j124 j125 j126 j127 j128 j129 j130 j131 j132 j133 j134 j135 j136 : Value) (d : Nat), Net.Reach Try.prog S (G ((base 7).at ⟨#[zs0, .slice b0 m cb, j2, j3, .bool false, .bool true, .slice p0 n cp, num n, j8, j9, j10, j11, j12, j13, j14, j15, j16, j17, j18, j19, j20, j21, j22, j23, j24, j25, j26, j27, j28, j29, j30, j31, j32, j33, j34, j35, j36, j37, j38, j39, j40, j41, j42, j43, j44, j45, j46, j47, j48, j49, j50, j51, j52, j53, j54, j55, j56, j57, j58, j59, j60, j61, j62, j63, j64, j65, j66, j67, j68, j69, j70, j71, j72, j73, j74, j75, j76, j77, j78, j79, j80, j81, j82, j83, j84, j85, j86, j87, j88, j89, j90, j91, j92, j93, j94, j95, j96, j97, j98, j99, j100, j101, j102, j103, j104, j105, j106, j107, j108, j109, j110, j111, j112, j113, j114, j115, j116, j117, j118, j119, j120, j121, j122, j123, j124, j125, j126, j127, j128, j129, j130, j131, j132, j133, j134, j135, j136], []⟩ [.code (tail7 5)]) []) (w1.at d) (AtLast Try.prog (PostW W)) := by
  intro j2 j3 j8 j9 j10 j11 j12 j13 j14 j15 j16 j17 j18 j19 j20 j21 j22 j23 j24 j25 j26 j27 j28 j29 j30 j31 j32 j33 j34 j35 j36 j37 j38 j39 j40 j41 j42 j43 j44 j45 j46 j47 j48 j49 j50 j51 j52 j53 j54 j55 j56 j57 j58 j59 j60 j61 j62 j63 j64 j65 j66 j67 j68 j69 j70 j71 j72 j73 j74 j75 j76 j77 j78 j79 j80 j81 j82 j83 j84 j85 j86 j87 j88 j89 j90 j91 j92 j93 j94 j95 j96 j97 j98 j99 j100 j101 j102 j103 j104 j105 j106 j107 j108 j109 j110 j111 j112 j113 j114 j115 j116 j117 j118 j119 j120 j121 j122 j123 j124 j125 j126 j127 j128 j129 j130 j131 j132 j133 j134 j135 j136 d
  have hmerge := merge_at (ca := cp) (heldP_at hP d).parts (hT.1.rel ⟨d, rfl⟩) (by omega) (hS.up (Nat.le_refl _))
  rw [hn] at hmerge
  have HM := Lib.hid hmerge
  have HP := Lib.hid hP
  have HT := Lib.hid hT
  have HG := Lib.hid hG
  have HS := Lib.hid hS
  have HN := Lib.hid hn
  have HMM := Lib.hid hm
  have HL := Lib.hid hlt
  have H64 := Lib.hid h64
  have HN64 := Lib.hid hn64
  clear hmerge hP hT hG hS hn hm hlt h64 hn64
  simp only [c32c, r32c, t32c, L7n, post7d, in7d, L7d, r22c, rest7b, test7b, post7b, in7b, L7b, r13c, L7k, post7a, in7a, L7a, tail7, body7, Try.f7, Option.getD_some, num]
  repeat (first
      | refine r_end ?_ | refine r_skip ?_ | (refine r_region ?_; simp only [List.size_toArray, List.length_cons, List.length_nil, Nat.reduceAdd, Nat.zero_add, List.range, List.range.loop])
      | refine r_seq ?_ | refine r_block ?_
      | (refine r_op rfl rfl (by decide) (fun w₁ h₁ K hK => ?_); obtain ⟨dd, hdd⟩ := h₁; subst hdd; (try simp only [at_at', alloc_at']); go_simp
         refine hK _ _ ⟨fun e he => (by have hm := mem_listed he; clear hK he; simp [go_sem, *] at hm), ?_⟩; clear hK K; try walk_nrm))
  refine r_callx (HM.out.at ⟨_, rfl⟩) rfl rfl (by decide) rfl (by simp only [List.map_toArray, List.map_cons, List.map_nil]; rfl) (fun S2 l w2 hp => ?_)
  obtain ⟨hm2, hown, hg, hcl⟩ := hp
  have hg : w1.grownBy w2 none := ⟨hg.os, hg.tape, hg.output, hg.size, hg.block⟩
  have hm2 : More S S2 w1 w2 := hm2
  have hlen := taken_le (partsL zs) ts
  have hHL : Held S2 w2 l (mergeR (partsL zs) ts) := Held.own hown (fun x hx => hcl _ hx x rfl) (by have := HL.out; have := HMM.out; omega)
  have hP2 := HP.out.shun hg hm2
  have hT2 := HT.out.shun hg hm2
  have hS2 := hm2.sl HS.out hg.size
  obtain ⟨⟨l0, cl, rfl, hlc, hlS, _⟩, hlb⟩ := hHL
  generalize hL : mergeR (partsL zs) ts = L at hlen hlc hown
  obtain ⟨hms, hmse⟩ := ms22 n HN64.out
  have HG2 := Lib.hid (grown_trans HG.out hg)
  have HP2 := Lib.hid hP2
  have HT2 := Lib.hid hT2
  have HS2 := Lib.hid hS2
  have HLC := Lib.hid hlc
  have HLS := Lib.hid hlS
  have HLB := Lib.hid hlb
  have HLEN := Lib.hid hlen
  have HLL := Lib.hid hL
  clear hm2 hown hg hcl hlen hP2 hT2 hS2 hlc hlS hlb hL HP HT HS HM HG
  try walk_nrm
  repeat (first
      | refine r_end ?_ | refine r_skip ?_ | (refine r_region ?_; simp only [List.size_toArray, List.length_cons, List.length_nil, Nat.reduceAdd, Nat.zero_add, List.range, List.range.loop])
      | refine r_seq ?_ | refine r_block ?_
      | (refine r_op rfl rfl (by decide) (fun w₁ h₁ K hK => ?_); obtain ⟨dd, hdd⟩ := h₁; subst hdd; (try simp only [at_at', alloc_at']); go_simp
         refine hK _ _ ⟨fun e he => (by have hm := mem_listed he; clear hK he; simp [go_sem, *] at hm), ?_⟩; clear hK K; try walk_nrm))
  refine r_loop ?_
  try simp only [at_at', alloc_at']
  have hga := World.grownBy_alloc w2 (.cells (madeCells #[.int .i64 0] n) 3) none
  have hlaw := parts_begun H64.out ts
  rw [HLL.out] at hlaw
  have hF : PartsF S2 (w2.alloc (.cells (madeCells #[.int .i64 0] n) 3)) w2.heap.size l0 p0 L (partsL zs) hd :=
    ⟨fun i x hx => by obtain ⟨ad, e, hc⟩ := HLC.out i x hx; exact ⟨ad, e, hga.cell hc (by simp)⟩, HLS.out, fun ad e => by have := HLB.out ad.block (by rw [e]; rfl); omega, HP2.out.parts.none hga, fun ad e => by have := HP2.out.top ad e; omega, fun j xs hj k hk => by have := HP2.out.low j xs hj k hk; omega⟩
  have lp := fun hh => at_loop (cs := []) (X := AtLast Try.prog (PostW W)) (n := n) (len := L.length) (cp := cp) (cl := cl) (zs0 := zs0) (vt := .slice b0 m cb) (aa := ⟨w2.heap.size, 0, none⟩) rfl HN.out rfl (by have := HLEN.out; have := HMM.out; have := HL.out; omega) hF (fun z hz => HS2.out.new z (by omega)) hlaw.2 (by rw [← HLL.out]; exact taken_in H64.out) parts_len hh L.length 0 _ (by omega) (grown_refl _ _) (zeros_at w2 n)
  have LP := Lib.hid lp
  have HLAW := Lib.hid hlaw
  have HGA := Lib.hid hga
  clear lp hF hlaw hga hms hmse
  have l := LP.out
  simp only [c32c, r32c, t32c, L7n, post7d, in7d, L7d, r22c, rest7b, test7b, post7b, in7b, L7b, r13c, L7k, post7a, in7a, L7a, tail7, body7, Try.f7, Option.getD_some, num] at l
  refine l (fun w j2 j3 j7 j8 j9 j13 j14 j15 j16 j17 j18 j19 j20 j21 j22 j23 j24 j25 j26 j27 j28 j29 j30 j31 j32 j33 j34 j35 j36 j37 j38 j39 j40 j41 j42 j43 j44 j45 j46 j47 j48 j49 j50 j51 j52 j53 j54 j55 j56 j57 j58 j59 j60 j61 j62 j63 j64 j65 j66 j67 j68 j69 j70 j71 j72 j73 j74 j75 j76 j77 j78 j79 j80 j81 j82 j83 j84 j85 j86 j87 j88 j89 j90 j91 j92 j93 j94 j95 j96 j97 j98 j99 j100 j101 j102 j103 j104 j105 j106 j107 j108 j109 j110 j111 j112 j113 j114 j115 j116 j117 j118 j119 j120 j121 j122 j123 j124 j125 j126 j127 j128 j129 j130 j131 j132 j133 j134 j135 j136 d hg hA => ?_) _ _ _ _ _ _ _ _ _ _ _ _ _ _ _ _ _ _ _ _ _ _ _ _ _ _ _ _ _ _ _ _ _ _ _ _ _ _ _ _ _ _ _ _ _ _ _ _ _ _ _ _ _ _ _ _ _ _ _ _ _ _ _ _ _ _ _ _ _ _ _ _ _ _ _ _ _ _ _ _ _ _ _ _ _ _ _ _ _ _ _ _ _ _ _ _ _ _ _ _ _ _ _ _ _ _ _ _ _ _ _ _ _ _ _ _ _ _ _ _ _ _ _ _ _ _ _ _ _ _
  clear l LP
  have hPw : PartsAt S2 w p0 (partsL zs) hd := by
    have h := HP2.out
    refine ⟨fun j hj => ?_, h.parts.clear, fun j xs hj => ?_⟩
    · obtain ⟨ad, e, hc⟩ := h.parts.cell j hj
      exact ⟨ad, e, hg.cell (HGA.out.cell hc (by simp)) (by rw [addBlk']; have := h.top ad e; simp; omega)⟩
    · exact ((h.parts.row j xs hj).kept HGA.out fun k _ e => by cases e).kept hg fun k hk e => by have := h.low j xs hj k hk; simp at e; omega
  have hTw : ∀ (j : Nat) u, ts[j]? = some u → ∃ ad, b0 = some ad ∧ w.cell? (ad.add j) = some (num u) := fun j u hj => by
    obtain ⟨⟨c0, cc, e0, hc0, _⟩, hb0⟩ := HT2.out
    obtain ⟨rfl, rfl⟩ : c0 = b0 ∧ cc = cb := by cases e0; exact ⟨rfl, rfl⟩
    obtain ⟨ad, e, hc⟩ := hc0 j u hj
    exact ⟨ad, e, hg.cell (HGA.out.cell hc (by simp)) (by rw [addBlk']; have := hb0 ad.block (by rw [e]; rfl); simp; omega)⟩
  have hTS : ∀ ad, b0 = some ad → ∀ z : Addr, z.block = ad.block → ¬ S2 (.cell z) := fun ad e => by
    obtain ⟨⟨c0, cc, e0, _, hc0, _⟩, _⟩ := HT2.out
    obtain ⟨rfl, rfl⟩ : c0 = b0 ∧ cc = cb := by cases e0; exact ⟨rfl, rfl⟩
    exact hc0 ad e
  have hGw : W.grownBy w none := by
    have h2 := HG2.out
    have hgs := HGA.out.size
    exact ⟨hg.os.trans (HGA.out.os.trans h2.os), hg.tape.trans (HGA.out.tape.trans h2.tape), hg.output.trans (HGA.out.output.trans h2.output), Nat.le_trans h2.size (Nat.le_trans hgs hg.size), fun k hk _ => by
      have := h2.size
      exact (hg.block k (by omega) (by simp; omega)).trans ((HGA.out.block k (by omega) (by simp)).trans (h2.block k hk (by simp)))⟩
  have lp := fun hh => end_loop (cs := []) (X := AtLast Try.prog (PostW W)) (n := n) (m := m) (cp := cp) (cb := cb) (zs0 := zs0) (b0 := b0) (aa := ⟨w2.heap.size, 0, none⟩) rfl HN.out HN64.out HMM.out (by have := HL.out; omega) hTw hTS hPw hA (fun z hz => HS2.out.new z (by omega)) HLAW.out.1 hh n 0 (by omega)
  have LP := Lib.hid lp
  have GW := Lib.hid hGw
  clear lp hPw hTw hTS hGw hg hA
  repeat (first
      | refine r_end ?_ | refine r_skip ?_ | (refine r_region ?_; simp only [List.size_toArray, List.length_cons, List.length_nil, Nat.reduceAdd, Nat.zero_add, List.range, List.range.loop])
      | refine r_seq ?_ | refine r_block ?_
      | (refine r_op rfl rfl (by decide) (fun w₁ h₁ K hK => ?_); obtain ⟨dd, hdd⟩ := h₁; subst hdd; (try simp only [at_at', alloc_at']); go_simp
         refine hK _ _ ⟨fun e he => (by have hm := mem_listed he; clear hK he; simp [go_sem, *] at hm), ?_⟩; clear hK K; try walk_nrm))
  refine r_loop ?_
  have l := LP.out
  simp only [c32c, r32c, t32c, L7n, post7d, in7d, L7d, r22c, rest7b, test7b, post7b, in7b, L7b, r13c, L7k, post7a, in7a, L7a, tail7, body7, Try.f7, Option.getD_some, num] at l
  refine l (fun j2 j3 j7 j8 j9 j10 j12 j13 j15 j16 j17 j18 j19 j20 j21 j22 j23 j24 j25 j26 j27 j28 j29 j30 j31 j32 j33 j34 j35 j36 j37 j38 j39 j40 j41 j42 j43 j44 j45 j46 j47 j48 j49 j50 j51 j52 j53 j54 j55 j56 j57 j58 j59 j60 j61 j62 j63 j64 j65 j66 j67 j68 j69 j70 j71 j72 j73 j74 j75 j76 j77 j78 j79 j80 j81 j82 j83 j84 j85 j86 j87 j88 j89 j90 j91 j92 j93 j94 j95 j96 j97 j98 j99 j100 j101 j102 j103 j104 j105 j106 j107 j108 j109 j110 j111 j112 j113 j114 j115 j116 j117 j118 j119 j120 j121 j122 j123 j124 j125 j126 j127 j128 j129 j130 j131 j132 j133 j134 j135 j136 d => ?_) _ _ _ _ _ _ _ _ _ _ _ _ _ _ _ _ _ _ _ _ _ _ _ _ _ _ _ _ _ _ _ _ _ _ _ _ _ _ _ _ _ _ _ _ _ _ _ _ _ _ _ _ _ _ _ _ _ _ _ _ _ _ _ _ _ _ _ _ _ _ _ _ _ _ _ _ _ _ _ _ _ _ _ _ _ _ _ _ _ _ _ _ _ _ _ _ _ _ _ _ _ _ _ _ _ _ _ _ _ _ _ _ _ _ _ _ _ _ _ _ _ _ _ _ _ _ _ _ _ _ _
  clear l LP
  · repeat (first
      | refine r_end ?_ | refine r_skip ?_ | (refine r_region ?_; simp only [List.size_toArray, List.length_cons, List.length_nil, Nat.reduceAdd, Nat.zero_add, List.range, List.range.loop])
      | refine r_seq ?_ | refine r_block ?_
      | (refine r_op rfl rfl (by decide) (fun w₁ h₁ K hK => ?_); obtain ⟨dd, hdd⟩ := h₁; subst hdd; (try simp only [at_at', alloc_at']); go_simp
         refine hK _ _ ⟨fun e he => (by have hm := mem_listed he; clear hK he; simp [go_sem, *] at hm), ?_⟩; clear hK K; try walk_nrm))
    refine r_ret ?_
    refine .here ⟨rfl, fun w₁ r => ⟨.bool true, ?_, rfl, ?_⟩⟩
    · simp [G, stepG, unwind, doReturn, results, Frame.at, base, Try.func7, Try.f7, seen, GStep.after]
    · obtain ⟨d, rfl⟩ := r
      exact below_grown (grown_at (grown_at GW.out _) _)

end Go.Proofs.Ytdpagejckahkkaa

namespace Go.Proofs.Ytdpagejckahkkaa
open Go Go.Conc Go.RowKit Net Go.ChangeShapes Go.WideShapes Go.ChangeAt

set_option maxHeartbeats 16000000 in
theorem crewParts_reach (W : World) {a0 b0 : Option Addr} {ca cb : Nat} {zs ts : List Int} (hx : Held (fun _ => False) W (.slice a0 zs.length ca) zs) (hy : Held (fun _ => False) W (.slice b0 ts.length cb) ts) (hl1 : zs.length * 8 ≤ 140737488351232) (hl2 : ts.length * 8 ≤ 140737488351232) (hr : ∀ z ∈ zs, InR z) :
    Net.Reach Try.prog (fun _ => False) (G ((base 7).at ⟨#[.slice a0 zs.length ca, .slice b0 ts.length cb, undef, undef, undef, undef, undef, undef, undef, undef, undef, undef, undef, undef, undef, undef, undef, undef, undef, undef, undef, undef, undef, undef, undef, undef, undef, undef, undef, undef, undef, undef, undef, undef, undef, undef, undef, undef, undef, undef, undef, undef, undef, undef, undef, undef, undef, undef, undef, undef, undef, undef, undef, undef, undef, undef, undef, undef, undef, undef, undef, undef, undef, undef, undef, undef, undef, undef, undef, undef, undef, undef, undef, undef, undef, undef, undef, undef, undef, undef, undef, undef, undef, undef, undef, undef, undef, undef, undef, undef, undef, undef, undef, undef, undef, undef, undef, undef, undef, undef, undef, undef, undef, undef, undef, undef, undef, undef, undef, undef, undef, undef, undef, undef, undef, undef, undef, undef, undef, undef, undef, undef, undef, undef, undef, undef, undef, undef, undef, undef, undef, undef, undef, undef, undef, undef, undef], []⟩ [.code body7]) []) W (AtLast Try.prog (PostW W)) := by
  have HX := Lib.hid hx
  have HY := Lib.hid hy
  have HL2 := Lib.hid hl2
  have HR := Lib.hid hr
  clear hx hy hr hl1 hl2
  simp only [body7, Try.f7, Option.getD_some]
  repeat (first
      | refine r_end ?_ | refine r_skip ?_ | (refine r_region ?_; simp only [List.size_toArray, List.length_cons, List.length_nil, Nat.reduceAdd, Nat.zero_add, List.range, List.range.loop])
      | refine r_seq ?_ | refine r_block ?_
      | (refine r_op rfl rfl (by decide) (fun w₁ h₁ K hK => ?_); obtain ⟨dd, hdd⟩ := h₁; subst hdd; (try simp only [at_at', alloc_at']); go_simp
         refine hK _ _ ⟨fun e he => (by have hm := mem_listed he; clear hK he; simp [go_sem, *] at hm), ?_⟩; clear hK K; try walk_nrm))
  refine r_callx (alive_calls (w := W.at _) (fun l h => h.elim)) rfl rfl (by decide) rfl (by simp only [List.map_toArray, List.map_nil]) (fun S v w0 hp => ?_)
  obtain ⟨rfl, m0, g0⟩ := hp
  have g0 : W.grownBy w0 none := ⟨g0.os, g0.tape, g0.output, g0.size, g0.block⟩
  have m0 : More (fun _ => False) S W w0 := m0
  have hS0 := Lib.hid (m0.sl (fun l h => h.elim) g0.size)
  have hx0 := Lib.hid (HX.out.shun g0 m0)
  have hy0 := Lib.hid (HY.out.shun g0 m0)
  have hG0 := Lib.hid g0
  clear HX HY m0 g0
  try walk_nrm
  by_cases hgt : 64 < zs.length
  · have hgt : (64 : Int) < (zs.length : Int) := by omega
    repeat (first
      | refine r_end ?_ | refine r_skip ?_ | (refine r_region ?_; simp only [List.size_toArray, List.length_cons, List.length_nil, Nat.reduceAdd, Nat.zero_add, List.range, List.range.loop])
      | (refine r_cond (t := true) (by simp [Act.eval] <;> omega) ?_; simp only [if_true, if_false, Bool.false_eq_true, ↓reduceIte])
      | refine r_seq ?_ | refine r_block ?_
      | (refine r_op rfl rfl (by decide) (fun w₁ h₁ K hK => ?_); obtain ⟨dd, hdd⟩ := h₁; subst hdd; (try simp only [at_at', alloc_at']); go_simp
         refine hK _ _ ⟨fun e he => (by have hm := mem_listed he; clear hK he; simp [go_sem, *] at hm), ?_⟩; clear hK K; try walk_nrm))
    refine r_ret ?_
    refine .here ⟨rfl, fun w₁ r => ⟨.bool true, ?_, rfl, ?_⟩⟩
    · simp [G, stepG, unwind, doReturn, results, Frame.at, base, Try.func7, Try.f7, seen, GStep.after]
    · obtain ⟨d, rfl⟩ := r
      exact below_grown (grown_at (grown_at hG0.out _) _)
  · have hle := Lib.hid (show zs.length ≤ 64 by omega)
    have hgt : ¬ ((64 : Int) < (zs.length : Int)) := by omega
    repeat (first
      | refine r_end ?_ | refine r_skip ?_ | (refine r_region ?_; simp only [List.size_toArray, List.length_cons, List.length_nil, Nat.reduceAdd, Nat.zero_add, List.range, List.range.loop])
      | (refine r_cond (t := false) (by simp [Act.eval] <;> omega) ?_; simp only [if_true, if_false, Bool.false_eq_true, ↓reduceIte])
      | refine r_seq ?_ | refine r_block ?_
      | (refine r_op rfl rfl (by decide) (fun w₁ h₁ K hK => ?_); obtain ⟨dd, hdd⟩ := h₁; subst hdd; (try simp only [at_at', alloc_at']); go_simp
         refine hK _ _ ⟨fun e he => (by have hm := mem_listed he; clear hK he; simp [go_sem, *] at hm), ?_⟩; clear hK K; try walk_nrm))
    clear hgt
    refine r_loop ?_
    have c0 : Cop w0 (partsL zs) 0 (.slice none 0 0) w0 := ⟨grown_refl w0 none, [], rfl, World.ownsRow_nil _ _ _ _, (fun u hu => by cases hu), (fun j u xs hj => by simp at hj)⟩
    have l := fun hh => parts_loop (S := S) (cs := []) (X := AtLast Try.prog (PostW W)) (ca := ca) (vt := .slice b0 ts.length cb) (W0 := w0) rfl hle.out hS0.out hx0.out HR.out hh zs.length 0 w0 (.slice none 0 0) (by omega) c0
    have L := Lib.hid l
    clear l c0
    have l := L.out
    simp only [tail7, body7, L7a, in7a, post7a, L7k, r13c, Try.f7, Option.getD_some, num] at l
    refine l (fun P w1 j2 j3 j8 j9 j10 j11 j12 j13 j14 j15 j16 j17 j18 j19 j20 j21 j22 j23 j24 j25 j26 j27 j28 j29 j30 j31 j32 j33 j34 j35 j36 j37 j38 j39 j40 j41 j42 j43 j44 j45 j46 j47 j48 j49 j50 j51 j52 j53 j54 j55 j56 j57 j58 j59 j60 j61 j62 j63 j64 j65 j66 j67 j68 j69 j70 j71 j72 j73 j74 j75 j76 j77 j78 j79 j80 j81 j82 j83 j84 j85 j86 j87 j88 j89 j90 j91 j92 j93 j94 j95 j96 j97 j98 j99 j100 j101 j102 j103 j104 j105 j106 j107 j108 j109 j110 j111 j112 j113 j114 j115 j116 j117 j118 j119 j120 j121 j122 j123 j124 j125 j126 j127 j128 j129 j130 j131 j132 j133 j134 j135 j136 d hC => ?_) _ _ _ _ _ _ _ _ _ _ _ _ _ _ _ _ _ _ _ _ _ _ _ _ _ _ _ _ _ _ _ _ _ _ _ _ _ _ _ _ _ _ _ _ _ _ _ _ _ _ _ _ _ _ _ _ _ _ _ _ _ _ _ _ _ _ _ _ _ _ _ _ _ _ _ _ _ _ _ _ _ _ _ _ _ _ _ _ _ _ _ _ _ _ _ _ _ _ _ _ _ _ _ _ _ _ _ _ _ _ _ _ _ _ _ _ _ _ _ _ _ _ _ _ _ _ _ _ _ _ _ _
    clear l L
    have g01 := hC.1
    have hC2 : Cop w0 (partsL zs) (partsL zs).length P w1 := by rw [partsL_length]; exact hC
    obtain ⟨p0, cp, hd, rfl, hP⟩ := Cop.heldS hC2 hS0.out parts_len
    have hn := partsL_length zs
    rw [hn]
    have r := parts_rest (S := S) (m := ts.length) (cb := cb) (cp := cp) (zs0 := .slice a0 zs.length ca) W w1 hn rfl hle.out hle.out (hS0.out.up g01.size) hP (hy0.out.kept g01) HL2.out (grown_trans hG0.out g01)
    have R := Lib.hid @r
    clear r hC hC2 hP hn g01
    have r := R.out
    simp only [c32c, r32c, t32c, L7n, post7d, in7d, L7d, r22c, rest7b, test7b, post7b, in7b, L7b, r13c, L7k, post7a, in7a, L7a, tail7, body7, Try.f7, Option.getD_some, num] at r
    exact r _ _ _ _ _ _ _ _ _ _ _ _ _ _ _ _ _ _ _ _ _ _ _ _ _ _ _ _ _ _ _ _ _ _ _ _ _ _ _ _ _ _ _ _ _ _ _ _ _ _ _ _ _ _ _ _ _ _ _ _ _ _ _ _ _ _ _ _ _ _ _ _ _ _ _ _ _ _ _ _ _ _ _ _ _ _ _ _ _ _ _ _ _ _ _ _ _ _ _ _ _ _ _ _ _ _ _ _ _ _ _ _ _ _ _ _ _ _ _ _ _ _ _ _ _ _ _ _ _ _ _ _

theorem parts_run (W : World) {a0 b0 : Option Addr} {ca cb : Nat} {zs ts : List Int} (hx : Held (fun _ => False) W (.slice a0 zs.length ca) zs) (hy : Held (fun _ => False) W (.slice b0 ts.length cb) ts) (hl1 : zs.length * 8 ≤ 140737488351232) (hl2 : ts.length * 8 ≤ 140737488351232) (hr : ∀ z ∈ zs, InR z) :
    ∃ M last o w' t', runNT Try.prog (M + 1) (solo (G (Frame.enter Try.prog 7 #[.slice a0 zs.length ca, .slice b0 ts.length cb] .normal) []) W) #[] = (.ended o w', t') ∧ runN Try.prog M (solo (G (Frame.enter Try.prog 7 #[.slice a0 zs.length ca, .slice b0 ts.length cb] .normal) []) W) = .next last ∧
    step Try.prog last = .ended o w' ∧ Conc.Good Try.prog (PostW W) last o w' t' := by
  have e : Frame.enter Try.prog 7 #[.slice a0 zs.length ca, .slice b0 ts.length cb] .normal = ((base 7).at ⟨#[.slice a0 zs.length ca, .slice b0 ts.length cb, undef, undef, undef, undef, undef, undef, undef, undef, undef, undef, undef, undef, undef, undef, undef, undef, undef, undef, undef, undef, undef, undef, undef, undef, undef, undef, undef, undef, undef, undef, undef, undef, undef, undef, undef, undef, undef, undef, undef, undef, undef, undef, undef, undef, undef, undef, undef, undef, undef, undef, undef, undef, undef, undef, undef, undef, undef, undef, undef, undef, undef, undef, undef, undef, undef, undef, undef, undef, undef, undef, undef, undef, undef, undef, undef, undef, undef, undef, undef, undef, undef, undef, undef, undef, undef, undef, undef, undef, undef, undef, undef, undef, undef, undef, undef, undef, undef, undef, undef, undef, undef, undef, undef, undef, undef, undef, undef, undef, undef, undef, undef, undef, undef, undef, undef, undef, undef, undef, undef, undef, undef, undef, undef, undef, undef, undef, undef, undef, undef, undef, undef, undef, undef, undef, undef], []⟩ [.code body7]) := by
    simp [Frame.enter, Frame.at, Try.func7, base, body7, Try.f7]
  rw [e]
  exact (crewParts_reach W hx hy hl1 hl2 hr).ends (stands_first _ _)

theorem parts_lifted (os : Os) (started : os.Started) (H : Type) (enc : TypeId × Value → H) :
    ReturnsInLeavingWide {} Try.checked os 7 .any (Rows.crewPartsSpec.pre6 enc Try.prog Try.f7 Rows.crewPartsRow.domain false) (Rows.crewPartsSpec.post enc Try.prog Try.f7 false true false false) := by
  refine returnsInLeavingWide_of_change_sized (C := Try.checked) try_own started Try.func7
    (ChangeSpec.witness6 (enc := enc) (C := Try.checked) false ⟨#[], #[.slice none 0 0, .slice none 0 0], []⟩ 8 (by kernel_rfl) (by kernel_rfl) (by kernel_rfl) (by kernel_rfl)) ?_
  intro W base args ds gs before hval0 hW _ hsz0 _
  have hsz : (DataW.weightsEach Try.prog (Try.f7.params.toList ++ Rows.crewPartsSpec.plain.varTypes Try.prog) (ds ++ gs)).all (· ≤ reachBytes) = true := hsz0
  clear hsz0
  have hval : ∀ (j : Nat) t v, Try.f7.params[j]? = some t → args[j]? = some v → Value.okWide Try.prog W .any base t v := hval0
  have hW' := hW
  obtain ⟨p, q, hA0, hV, rfl, _, _⟩ := hW
  have hA : DataW.TrodAll enc Try.prog W 0 (fun _ => true) true Try.f7.params.toList args.toList ds p := hA0
  rw [Try.params7] at hA hval hsz
  obtain ⟨v0, v1, d0, d1, p0, p1, rfl, rfl, rfl, h0, h1⟩ := trodAll_two hA
  obtain ⟨rfl, rfl⟩ := trodVars_none hV
  obtain ⟨a0, len0, cap0, rfl⟩ := okWide_slice Try.underlying22 (hval 0 22 v0 rfl rfl)
  obtain ⟨a1, len1, cap1, rfl⟩ := okWide_slice Try.underlying22 (hval 1 22 v1 rfl rfl)
  have k0 := okWide_low Try.underlying22 (hval 0 22 _ rfl rfl)
  have k1 := okWide_low Try.underlying22 (hval 1 22 _ rfl rfl)
  clear hA0 hval0
  simp only [List.append_nil] at hW'
  have hlt : ∀ x ∈ p0 ++ p1, x.block < W.heap.size := fun x hx => by simpa using hW'.lt x hx
  have hl0 : ∀ x ∈ p0, x.block < W.heap.size := fun x hx => hlt x (List.mem_append.2 (.inl hx))
  have hl1 : ∀ x ∈ p1, x.block < W.heap.size := fun x hx => hlt x (List.mem_append.2 (.inr hx))
  obtain ⟨zs, i0, b0, s0, r0⟩ := open_arg h0 hl0 fun elems spare e => by
    subst e
    have := sized_slice hsz (j := 0) (t := 22) (e := 3) rfl rfl Try.underlying22
    rwa [try_bytes3] at this
  obtain ⟨ts, i1, b1, s1, _⟩ := open_arg h1 hl1 fun elems spare e => by
    subst e
    have := sized_slice hsz (j := 1) (t := 22) (e := 3) rfl rfl Try.underlying22
    rwa [try_bytes3] at this
  obtain rfl := ints_len i0
  obtain rfl := ints_len i1
  obtain ⟨M, last, o, w', t', r1, r2, r3, r4⟩ := parts_run W ⟨i0, k0⟩ ⟨i1, k1⟩ s0 s1 r0
  refine ⟨M, last, o, w', t', r1, r2, r3, r4.mono fun v hF => ?_⟩
  obtain ⟨rfl, hbelow⟩ : PostW W v w' := hF
  have t0 : DataW.Trod enc Try.prog w' 0 (fun b => decide (b < W.heap.size)) true 22 _ d0 p0 := Below.trod try_laid (by kernel_rfl) (of_decide_eq_true (by kernel_rfl)) h0 hbelow hl0
  have t1 : DataW.Trod enc Try.prog w' 0 (fun b => decide (b < W.heap.size)) true 22 _ d1 p1 := Below.trod try_laid (by kernel_rfl) (of_decide_eq_true (by kernel_rfl)) h1 hbelow hl1
  exact ⟨_, _, _, [], _, [], hW', trodAll_mk1 (shut_bool Try.underlying4 true), trodAll_mk2 t0 t1, rfl, hbelow.frame _, fun h => by cases h⟩

/-- THE STATEMENT. -/
theorem crew_parts : Rows.CrewPartsSaid :=
  OpenClaim.holds_of_wide_leaving 7 Try.f7 rfl rfl rfl rfl rfl rfl rfl ⟨rfl, rfl, rfl, rfl, rfl⟩ rfl rfl rfl rfl rfl (by kernel_rfl) Try.func7 (by kernel_rfl)
    (of_decide_eq_true (by kernel_rfl)) (by unfold Func.isWrapper; first | (rw [if_pos (by decide +kernel)]; kernel_rfl) | (rw [if_neg (by decide +kernel)]; exact ⟨rfl, rfl⟩))
    (fun os started H enc _ => parts_lifted os started H enc)

#print axioms crew_parts
end Go.Proofs.Ytdpagejckahkkaa
