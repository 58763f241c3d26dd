/- CrewMerge's first loop: the parts are copied, each a new row. · CrewMerge's second loop: each part is as it was. -/
import Derived.Test.YtdpagejckahkkaaGrowR
import Derived.Test.YtdpagejckahkkaaHold
import Derived.Test.YtdpagejckahkkaaDrawn
set_option linter.unusedSimpArgs false
set_option linter.unusedVariables false
set_option maxRecDepth 100000
namespace Go.Proofs.Ytdpagejckahkkaa.Net
open Go Go.Conc Go.RowKit

noncomputable def body5 : Code := Try.f5.body.getD .skip
noncomputable def tail5 : Nat → Code
  | 0 => body5
  | n + 1 => match tail5 n with | .seq _ r => r | _ => .skip
noncomputable def L5a : Code := match tail5 3 with | .seq (.seq _ (.block _ (.loop c))) _ => c | _ => .skip
noncomputable def L5b : Code := match tail5 9 with | .seq (.seq _ (.block _ (.loop c))) _ => c | _ => .skip

/-- i of the parts are copied, in the list p. -/
def Cop (W0 : World) (ps : List (List Int)) (i : Nat) (p : Value) (w : World) : Prop :=
  W0.grownBy w none ∧ ∃ hs : List Value, hs.length = i ∧ w.ownsRow W0.heap.size 22 1 p i hs ∧ (∀ u ∈ hs, u.oneCell' = true) ∧ ∀ (j : Nat) u xs, hs[j]? = some u → ps[j]? = some xs → w.ownsRow W0.heap.size 3 1 u xs.length (xs.map num) ∧ ∀ k, u.ownBlock = some k → p.ownBlock ≠ some k
theorem Cop.more {W0 w w1 w2 : World} {ps : List (List Int)} {i : Nat} {p p' u : Value} {hs : List Value} {xs : List Int} (hg : W0.grownBy w none) (hl : hs.length = i) (hown : w.ownsRow W0.heap.size 22 1 p i hs) (h1 : ∀ u ∈ hs, u.oneCell' = true) (hrow : ∀ (j : Nat) u xs, hs[j]? = some u → ps[j]? = some xs → w.ownsRow W0.heap.size 3 1 u xs.length (xs.map num) ∧ ∀ k, u.ownBlock = some k → p.ownBlock ≠ some k)
    (hx : ps[i]? = some xs) (hu : w1.ownsRow w.heap.size 3 1 u xs.length (xs.map num)) (hu1 : u.oneCell' = true) (g1 : w.grownBy w1 none) (o : Obj) (hp' : w2.ownsRow W0.heap.size 22 1 p' (i + 1) (hs ++ [u])) (g2 : (w1.alloc o).grownBy w2 p.ownBlock) (hb : p'.ownBlock = p.ownBlock ∨ (p'.ownBlock = some (w1.alloc o).heap.size ∧ (w1.alloc o).grownBy w2 none)) : Cop W0 ps (i + 1) p' w2 := by
  have hg1 : W0.grownBy w1 none := grown_trans hg g1
  have ga := World.grownBy_alloc w1 o none
  have gs := g1.size
  have hpb : ∀ k, p.ownBlock = some k → W0.heap.size ≤ k ∧ k < w.heap.size := fun k hk => hown.lt k hk
  have g0 : W0.grownBy w2 none := ⟨g2.os.trans (ga.os.trans hg1.os), g2.tape.trans (ga.tape.trans hg1.tape), g2.output.trans (ga.output.trans hg1.output), Nat.le_trans hg1.size (Nat.le_trans ga.size g2.size),
    fun k hk _ => (g2.block k (Nat.lt_of_lt_of_le hk (Nat.le_trans hg1.size ga.size)) (fun e => by have := (hpb k e.symm).1; omega)).trans ((ga.block k (Nat.lt_of_lt_of_le hk hg1.size) (by simp)).trans (hg1.block k hk (by simp)))⟩
  have kept : ∀ {x : World} {b : Nat} {v : Value} {n : Nat} {ys : List Int}, w1.ownsRow b 3 1 v n (ys.map num) → (∀ k, v.ownBlock = some k → p.ownBlock ≠ some k) → w2.ownsRow b 3 1 v n (ys.map num) := fun {x b v n ys} h hne => (h.kept ga (by cases v.ownBlock <;> simp)).kept g2 (by
    cases e : v.ownBlock with
    | none => exact .inl rfl
    | some k => exact .inr fun e' => hne k e (by rw [← e']))
  have rise : ∀ {x y : Nat} {v : Value} {n : Nat} {ys : List Value}, x ≤ y → w2.ownsRow y 3 1 v n ys → w2.ownsRow x 3 1 v n ys := fun hxy h => ⟨h.1, h.2.imp id fun ⟨g, cap, cur, e, hb, r⟩ => ⟨g, cap, cur, e, Nat.le_trans hxy hb, r⟩⟩
  have away : ∀ k, k < w1.heap.size → p.ownBlock ≠ some k → p'.ownBlock ≠ some k := fun k hk hn e => by
    rcases hb with h | ⟨h, _⟩
    · exact hn (h ▸ e)
    · rw [h] at e
      obtain rfl := Option.some.inj e
      have := ga.size
      omega
  refine ⟨g0, hs ++ [u], by simp [hl], hp', fun v hv => ?_, fun j v ys hj hy => ?_⟩
  · rcases List.mem_append.1 hv with h | h
    · exact h1 v h
    · rw [List.mem_singleton.1 h]; exact hu1
  · rcases Nat.lt_or_ge j i with hji | hji
    · rw [List.getElem?_append_left (by omega)] at hj
      obtain ⟨k1, k2⟩ := hrow j v ys hj hy
      exact ⟨kept (x := w1) (k1.kept g1 (by cases v.ownBlock <;> simp)) k2, fun k hk => away k (by have := (k1.lt k hk).2; omega) (k2 k hk)⟩
    · rw [List.getElem?_append_right (by omega)] at hj
      obtain rfl : j = i := by
        rcases Nat.lt_or_ge (j - hs.length) 1 with h | h
        · omega
        · rw [List.getElem?_eq_none (by simpa using h)] at hj; cases hj
      rw [hl, Nat.sub_self] at hj
      obtain rfl := Option.some.inj hj
      rw [hx] at hy
      obtain rfl := Option.some.inj hy
      have k2 : ∀ k, u.ownBlock = some k → p.ownBlock ≠ some k := fun k hk e => by have := (hu.lt k hk).1; have := (hpb k e).2; omega
      exact ⟨rise (by have := hg.size; omega) (kept (x := w1) hu k2), fun k hk => away k (hu.lt k hk).2 (k2 k hk)⟩

section
variable {cs : List Frame} {X : (Loc → Prop) → Goroutine → World → Prop} {a0 : Option Addr} {ca n : Nat} {vt want : Value}
set_option maxHeartbeats 8000000 in
theorem copy_loop {W0 : World} {ps : List (List Int)} {hd : Nat → Value} (hn : ps.length = n) (hmax : n * 24 ≤ 140737488351232) (hP : PartsAt (fun _ => False) W0 a0 ps hd) (hlen : ∀ xs ∈ ps, xs.length * 8 ≤ 140737488351232)
    (h : ∀ (p : Value) (w : World) (j2 j3 j8 j9 j10 j11 j12 j13 j14 j15 j16 j17 j18 j19 j20 j21 j22 j23 j24 j25 j26 j27 j28 j29 j30 j31 j32 j33 j34 j35 j36 j37 j38 j39 j40 j41 j42 j43 j44 j45 j46 j47 j48 j49 j50 j51 j52 j53 j54 j55 j56 j57 j58 j59 j60 j61 j62 j63 j64 j65 j66 j67 j68 j69 j70 : Value) (d : Nat), Cop W0 ps n p w → Reach Try.prog (fun _ => False) (G ((base 5).at ⟨#[.slice a0 n ca, vt, j2, j3, .bool false, want, p, num n, j8, j9, j10, j11, j12, j13, j14, j15, j16, j17, j18, j19, j20, j21, j22, j23, j24, j25, j26, j27, j28, j29, j30, j31, j32, j33, j34, j35, j36, j37, j38, j39, j40, j41, j42, j43, j44, j45, j46, j47, j48, j49, j50, j51, j52, j53, j54, j55, j56, j57, j58, j59, j60, j61, j62, j63, j64, j65, j66, j67, j68, j69, j70], []⟩ [.code (tail5 4)]) cs) (w.at d) X) :
    ∀ (k i : Nat) (w : World) (p : Value), i + k = n → Cop W0 ps i p w → ∀ (j2 j3 j8 j9 j10 j11 j12 j13 j14 j15 j16 j17 j18 j19 j20 j21 j22 j23 j24 j25 j26 j27 j28 j29 j30 j31 j32 j33 j34 j35 j36 j37 j38 j39 j40 j41 j42 j43 j44 j45 j46 j47 j48 j49 j50 j51 j52 j53 j54 j55 j56 j57 j58 j59 j60 j61 j62 j63 j64 j65 j66 j67 j68 j69 j70 : Value) (d : Nat), Reach Try.prog (fun _ => False) (G ((base 5).at ⟨#[.slice a0 n ca, vt, j2, j3, .bool false, want, p, num i, j8, j9, j10, j11, j12, j13, j14, j15, j16, j17, j18, j19, j20, j21, j22, j23, j24, j25, j26, j27, j28, j29, j30, j31, j32, j33, j34, j35, j36, j37, j38, j39, j40, j41, j42, j43, j44, j45, j46, j47, j48, j49, j50, j51, j52, j53, j54, j55, j56, j57, j58, j59, j60, j61, j62, j63, j64, j65, j66, j67, j68, j69, j70], []⟩ [.code L5a, .inLoop L5a, .inBlock 0, .code (tail5 4)]) cs) (w.at d) X := by
  intro k
  induction k with
  | zero =>
    intro i w p hi hC j2 j3 j8 j9 j10 j11 j12 j13 j14 j15 j16 j17 j18 j19 j20 j21 j22 j23 j24 j25 j26 j27 j28 j29 j30 j31 j32 j33 j34 j35 j36 j37 j38 j39 j40 j41 j42 j43 j44 j45 j46 j47 j48 j49 j50 j51 j52 j53 j54 j55 j56 j57 j58 j59 j60 j61 j62 j63 j64 j65 j66 j67 j68 j69 j70 d
    obtain rfl : i = n := by omega
    have h := fun j2 j3 j8 j9 j10 j11 j12 j13 j14 j15 j16 j17 j18 j19 j20 j21 j22 j23 j24 j25 j26 j27 j28 j29 j30 j31 j32 j33 j34 j35 j36 j37 j38 j39 j40 j41 j42 j43 j44 j45 j46 j47 j48 j49 j50 j51 j52 j53 j54 j55 j56 j57 j58 j59 j60 j61 j62 j63 j64 j65 j66 j67 j68 j69 j70 d => h p w j2 j3 j8 j9 j10 j11 j12 j13 j14 j15 j16 j17 j18 j19 j20 j21 j22 j23 j24 j25 j26 j27 j28 j29 j30 j31 j32 j33 j34 j35 j36 j37 j38 j39 j40 j41 j42 j43 j44 j45 j46 j47 j48 j49 j50 j51 j52 j53 j54 j55 j56 j57 j58 j59 j60 j61 j62 j63 j64 j65 j66 j67 j68 j69 j70 d hC
    clear hC hP hlen
    simp only [tail5, body5, L5a, L5b, Try.f5, Option.getD_some, num] at h ⊢
    refine r_seq ?_
    refine r_seq ?_
    (refine r_region ?_; simp only [List.size_toArray, List.length_cons, List.length_nil, Nat.reduceAdd, Nat.zero_add, List.range, List.range.loop])
    repeat (refine r_op rfl rfl (by decide) (fun w₁ h₁ K hK => ?_); obtain ⟨dd, hdd⟩ := h₁; subst hdd; (try simp only [at_at', alloc_at']); go_simp
            refine hK _ _ ⟨fun e he => (by have hm := mem_listed he; clear hK he; simp [go_sem] at hm), ?_⟩; clear hK K; try walk_nrm)
    refine r_end ?_
    refine r_cond (t := false) (by simp [Act.eval]) ?_; simp only [if_true, if_false, Bool.false_eq_true, ↓reduceIte]
    refine r_exit rfl ?_
    exact h _ _ _ _ _ _ _ _ _ _ _ _ _ _ _ _ _ _ _ _ _ _ _ _ _ _ _ _ _ _ _ _ _ _ _ _ _ _ _ _ _ _ _ _ _ _ _ _ _ _ _ _ _ _ _ _ _ _ _ _ _ _ _ _ _ _
  | succ k ih =>
    intro i w p hi hC j2 j3 j8 j9 j10 j11 j12 j13 j14 j15 j16 j17 j18 j19 j20 j21 j22 j23 j24 j25 j26 j27 j28 j29 j30 j31 j32 j33 j34 j35 j36 j37 j38 j39 j40 j41 j42 j43 j44 j45 j46 j47 j48 j49 j50 j51 j52 j53 j54 j55 j56 j57 j58 j59 j60 j61 j62 j63 j64 j65 j66 j67 j68 j69 j70 d
    have hlt : i < n := by omega
    have hlt' : (i : Int) < (n : Int) := by omega
    have ew : IntKind.i64.wrap ((i : Int) + 1) = ((i + 1 : Nat) : Int) := by rw [IntKind.wrap_i64]; omega
    obtain ⟨hg, hs, hl, hown, h1, hrow⟩ := hC
    obtain ⟨xs, hx⟩ : ∃ xs, ps[i]? = some xs := ⟨_, List.getElem?_eq_getElem (by omega)⟩
    obtain ⟨ad, rfl, hc0⟩ := hP.cell i (by omega)
    have hcx : w.cell? (ad.add i) = some (hd i) := hg.cell hc0 (by simp)
    have hI : IntsAt (fun _ => False) w (hd i) xs := (hP.row i _ hx).kept hg fun k _ e => by cases e
    have hlx : xs.length * 8 ≤ 140737488351232 := hlen _ (List.mem_of_getElem? hx)
    have hclear : ∀ x : Addr, x.block = ad.block → ¬ (fun _ : Loc => False) (.cell x) := fun _ _ => id
    have HI := Lib.hid hI
    have HX := Lib.hid hx
    have HOWN := Lib.hid hown
    have HG := Lib.hid hg
    have HR := Lib.hid hrow
    have H1 := Lib.hid h1
    have HP := Lib.hid hP
    have HL := Lib.hid hl
    have HN := Lib.hid hn
    have HLEN := Lib.hid hlen
    have HLX := Lib.hid hlx
    have H := Lib.hid @h
    have IH := Lib.hid @ih
    clear hI hx hown hg hrow h1 hP hl hn hlen hlx hc0 h ih
    simp only [tail5, body5, L5a, L5b, Try.f5, Option.getD_some, num] at hcx ⊢
    repeat (first
      | refine r_end ?_ | refine r_skip ?_ | (refine r_region ?_; simp only [List.size_toArray, List.length_cons, List.length_nil, Nat.reduceAdd, Nat.zero_add, List.range, List.range.loop])
      | (refine r_cond (t := true) (by simp [Act.eval, hlt, hlt']) ?_; simp only [if_true, if_false, Bool.false_eq_true, ↓reduceIte])
      | refine r_seq ?_ | refine r_block ?_ | refine r_inBlock ?_
      | (refine r_op rfl rfl (by decide) (fun w₁ h₁ K hK => ?_); obtain ⟨dd, hdd⟩ := h₁; subst hdd; (try simp only [at_at', alloc_at']); go_simp
         refine hK _ _ ⟨fun e he => (by have hm := mem_listed he; clear hK he; simp [go_sem, *] at hm; first | done | (subst hm; exact evF_cell _ _ id)), ?_⟩; clear hK K; try walk_nrm))
    refine r_callx (ints_calls (w := w.at _) (HI.out.kept (rel_grown ⟨_, rfl⟩ none) fun k _ e => by cases e) (by have := HLX.out; omega) (fun _ _ => id)) rfl rfl (by decide) rfl (by simp only [List.map_toArray, List.map_cons, List.map_nil]; rfl) (fun S' u w1 hp => ?_)
    obtain ⟨hS', hu, g1, _⟩ := hp
    have hS' := hS'.symm; subst hS'
    have g1 : w.grownBy w1 none := ⟨g1.os, g1.tape, g1.output, g1.size, g1.block⟩
    have hu : w1.ownsRow w.heap.size 3 1 u xs.length (xs.map num) := hu
    obtain ⟨u0, ul, uc, rfl⟩ : ∃ u0 ul uc, u = .slice u0 ul uc := by
      rcases hu.2 with ⟨rfl, _⟩ | ⟨_, _, _, rfl, _⟩ <;> exact ⟨_, _, _, rfl⟩
    have hu1 : (Value.slice u0 ul uc).oneCell' = true := rfl
    have HU := Lib.hid hu
    have HU1 := Lib.hid hu1
    have G1 := Lib.hid g1
    clear hu hu1 g1
    try walk_nrm
    refine r_op rfl rfl (by decide) (fun w₁ h₁ K hK => ?_); obtain ⟨dd, hdd⟩ := h₁; subst hdd; (try simp only [at_at', alloc_at']); go_simp
    refine hK _ _ ⟨fun e he => (by have hm := mem_listed he; clear hK he; simp [go_sem] at hm), ?_⟩; clear hK K; try walk_nrm
    try simp only [at_at', alloc_at']
    have hown1 : (w1.alloc (.cells #[.slice u0 ul uc] 22)).ownsRow W0.heap.size 22 1 p i hs := (HOWN.out.kept G1.out (by cases p.ownBlock <;> simp)).kept (World.grownBy_alloc w1 _ none) (by cases p.ownBlock <;> simp)
    have hcell : ∀ (j : Nat) v, [Value.slice u0 ul uc][j]? = some v → (w1.alloc (.cells #[.slice u0 ul uc] 22)).cell? ((⟨w1.heap.size, 0, none⟩ : Addr).add j) = some v := fun j v hj => by
      cases j with
      | zero =>
        cases hj
        have e := World.alloc_heap_new w1 (.cells #[.slice u0 ul uc] 22)
        simp only [Addr.add, if_true, ↓reduceIte, World.cell?]
        rw [e]
        rfl
      | succ j => simp at hj
    refine r_appendR (.tmp 23) (.tmp 29) (base := W0.heap.size) (news := [.slice u0 ul uc]) rfl rfl (by decide) rfl rfl rfl (hown1.kept (rel_grown ⟨_, rfl⟩ none) (by cases p.ownBlock <;> simp)) rfl hcell (fun v hv => by rw [List.mem_singleton.1 hv]; exact HU1.out) (by omega) (Nat.le_trans HG.out.size (Nat.le_trans G1.out.size (World.grownBy_alloc w1 (.cells #[.slice u0 ul uc] 22) none).size)) (fun _ _ => id) (fun _ _ => id) (fun p' w2 hp' g2 _ hb => ?_)
    have hp' : w2.ownsRow W0.heap.size 22 1 p' (i + 1) (hs ++ [.slice u0 ul uc]) := hp'
    have g2 : (w1.alloc (.cells #[.slice u0 ul uc] 22)).grownBy w2 p.ownBlock := ⟨g2.os, g2.tape, g2.output, g2.size, g2.block⟩
    have hb : p'.ownBlock = p.ownBlock ∨ (p'.ownBlock = some (w1.alloc (.cells #[.slice u0 ul uc] 22)).heap.size ∧ (w1.alloc (.cells #[.slice u0 ul uc] 22)).grownBy w2 none) := hb.imp id fun h => ⟨h.1, ⟨h.2.os, h.2.tape, h.2.output, h.2.size, h.2.block⟩⟩
    have HC := Lib.hid (Cop.more HG.out HL.out HOWN.out H1.out HR.out HX.out HU.out HU1.out G1.out _ hp' g2 hb)
    clear hp' g2 hb hown1 hcell HG HL HOWN H1 HR HX HU HU1 G1 hcx
    try walk_nrm
    repeat (first
      | refine r_end ?_ | refine r_skip ?_ | (refine r_region ?_; simp only [List.size_toArray, List.length_cons, List.length_nil, Nat.reduceAdd, Nat.zero_add, List.range, List.range.loop])
      | refine r_seq ?_ | refine r_block ?_ | refine r_inBlock ?_
      | (refine r_op rfl rfl (by decide) (fun w₁ h₁ K hK => ?_); obtain ⟨dd, hdd⟩ := h₁; subst hdd; (try simp only [at_at', alloc_at']); go_simp
         refine hK _ _ ⟨fun e he => (by have hm := mem_listed he; clear hK he; simp [go_sem, *] at hm; first | done | (subst hm; exact evF_cell _ _ id)), ?_⟩; clear hK K; try walk_nrm))
    refine r_inLoop ?_
    have l := IH.out (i + 1) w2 p' (by omega) HC.out
    simp only [tail5, body5, L5a, L5b, Try.f5, Option.getD_some, num] at l
    exact l _ _ _ _ _ _ _ _ _ _ _ _ _ _ _ _ _ _ _ _ _ _ _ _ _ _ _ _ _ _ _ _ _ _ _ _ _ _ _ _ _ _ _ _ _ _ _ _ _ _ _ _ _ _ _ _ _ _ _ _ _ _ _ _ _ _
end
end Go.Proofs.Ytdpagejckahkkaa.Net

namespace Go.Proofs.Ytdpagejckahkkaa.Net
open Go Go.Conc Go.RowKit

noncomputable def in5b : Code := match L5b with | .seq _ (.seq (.block _ c) _) => c | _ => .skip
noncomputable def post5b : Code := match L5b with | .seq _ (.seq _ c) => c | _ => .skip

section
variable {S : Loc → Prop} {cs : List Frame} {X : (Loc → Prop) → Goroutine → World → Prop} {a0 p0 : Option Addr} {ca cp n : Nat} {vt vu : Value} {w : World}
set_option maxHeartbeats 4000000 in
/-- The test of one part, whose order is drawn. -/
theorem back_test {i : Nat} {ad pd : Addr} {x y : Value} (hi : i < n) (hx : w.cell? (pd.add i) = some x) (hy : w.cell? (ad.add i) = some y) (hxS : ∀ z : Addr, z.block = pd.block → ¬ S (.cell z)) (hyS : ∀ z : Addr, z.block = ad.block → ¬ S (.cell z))
    (hsame : CallsR Try.prog S 12 #[x, y] w (fun S' v w' => S' = S ∧ v = .bool true ∧ AtRel w w')) {k : List Item}
    (h : ∀ (j2 j3 j5 j7 j9 j10 j11 j14 j15 j16 j17 j18 j19 j20 j21 j22 j23 j24 j25 j26 j27 j28 j29 j30 j31 j32 j33 j34 j35 j36 j37 j38 j39 j40 j41 j42 j43 j44 j45 j46 j47 j48 j49 j50 j51 j52 j53 j54 j55 j56 j57 j58 j59 j60 j61 j62 j63 j64 j65 j66 j67 j68 j69 j70 : Value) (d : Nat), Reach Try.prog S (G ((base 5).at ⟨#[.slice (some ad) n ca, vt, j2, j3, .bool false, j5, .slice (some pd) n cp, j7, vu, j9, j10, j11, .bool true, num i, j14, j15, j16, j17, j18, j19, j20, j21, j22, j23, j24, j25, j26, j27, j28, j29, j30, j31, j32, j33, j34, j35, j36, j37, j38, j39, j40, j41, j42, j43, j44, j45, j46, j47, j48, j49, j50, j51, j52, j53, j54, j55, j56, j57, j58, j59, j60, j61, j62, j63, j64, j65, j66, j67, j68, j69, j70], []⟩ k) cs) (w.at d) X) :
    ∀ (j2 j3 j5 j7 j9 j10 j11 j14 j15 j16 j17 j18 j19 j20 j21 j22 j23 j24 j25 j26 j27 j28 j29 j30 j31 j32 j33 j34 j35 j36 j37 j38 j39 j40 j41 j42 j43 j44 j45 j46 j47 j48 j49 j50 j51 j52 j53 j54 j55 j56 j57 j58 j59 j60 j61 j62 j63 j64 j65 j66 j67 j68 j69 j70 : Value) (d : Nat), Reach Try.prog S (G ((base 5).at ⟨#[.slice (some ad) n ca, vt, j2, j3, .bool false, j5, .slice (some pd) n cp, j7, vu, j9, j10, j11, .bool true, num i, j14, j15, j16, j17, j18, j19, j20, j21, j22, j23, j24, j25, j26, j27, j28, j29, j30, j31, j32, j33, j34, j35, j36, j37, j38, j39, j40, j41, j42, j43, j44, j45, j46, j47, j48, j49, j50, j51, j52, j53, j54, j55, j56, j57, j58, j59, j60, j61, j62, j63, j64, j65, j66, j67, j68, j69, j70], []⟩ (.code in5b :: k)) cs) (w.at d) X := by
  intro j2 j3 j5 j7 j9 j10 j11 j14 j15 j16 j17 j18 j19 j20 j21 j22 j23 j24 j25 j26 j27 j28 j29 j30 j31 j32 j33 j34 j35 j36 j37 j38 j39 j40 j41 j42 j43 j44 j45 j46 j47 j48 j49 j50 j51 j52 j53 j54 j55 j56 j57 j58 j59 j60 j61 j62 j63 j64 j65 j66 j67 j68 j69 j70 d
  have hi3 : (i : Int) < (n : Int) := by omega
  have H := Lib.hid @h
  have HS := Lib.hid hsame
  clear h hsame
  simp only [in5b, L5b, tail5, body5, Try.f5, Option.getD_some, num] at hx hy ⊢
  refine r_drawn (by decide) (AtRel w) (by kernel_rfl) fun dd => ?_
  have hF : AtRel w ((w.at d).at dd) := ⟨dd, rfl⟩
  simp only [List.size_toArray, List.length_cons, List.length_nil, Nat.reduceAdd, Nat.zero_add]
  co_applyP r_take (i := 0) rfl (by first | kernel_rfl | decide +kernel) (by first | kernel_rfl | decide +kernel) (by first | kernel_rfl | decide +kernel) (.inl ⟨by rfl, fun _ hw => ⟨run_eq_of ?run0, ?guar0⟩⟩) hF ?rest0
  case run0 =>
    intro K hK
    go_simp
    exact hK
  case guar0 =>
    rw [listed_nil (by simp [go_sem])]; exact Terms.idle (termsF S) _
  try walk_nrm
  co_applyP r_take (i := 1) rfl (by first | kernel_rfl | decide +kernel) (by first | kernel_rfl | decide +kernel) (by first | kernel_rfl | decide +kernel) (.inl ⟨by rfl, fun _ hw => ⟨run_eq_of ?run1, ?guar1⟩⟩) hF ?rest1
  case run1 =>
    intro K hK
    go_simp
    exact hK
  case guar1 =>
    rw [listed_nil (by simp [go_sem])]; exact Terms.idle (termsF S) _
  try walk_nrm
  co_applyP r_take (i := 2) rfl (by first | kernel_rfl | decide +kernel) (by first | kernel_rfl | decide +kernel) (by first | kernel_rfl | decide +kernel) (.inl ⟨by rfl, fun _ hw => ⟨run_eq_of ?run2, ?guar2⟩⟩) hF ?rest2
  case run2 =>
    intro K hK
    go_simp
    exact hK
  case guar2 =>
    rw [listed_nil (by simp [go_sem])]; exact Terms.idle (termsF S) _
  try walk_nrm
  co_applyP r_take (i := 3) rfl (by first | kernel_rfl | decide +kernel) (by first | kernel_rfl | decide +kernel) (by first | kernel_rfl | decide +kernel) (.inl ⟨by rfl, fun _ hw => ⟨run_eq_of ?run3, ?guar3⟩⟩) hF ?rest3
  case run3 =>
    intro K hK
    go_simp
    exact hK
  case guar3 =>
    rw [listed_nil (by simp [go_sem])]; exact Terms.idle (termsF S) _
  try walk_nrm
  co_applyP r_take (i := 4) rfl (by first | kernel_rfl | decide +kernel) (by first | kernel_rfl | decide +kernel) (by first | kernel_rfl | decide +kernel) (.inl ⟨by rfl, fun _ hw => ⟨run_eq_of ?run4, ?guar4⟩⟩) hF ?rest4
  case run4 =>
    intro K hK
    go_simp
    exact hK
  case guar4 =>
    rw [listed_nil (by simp [go_sem, *])]; exact Terms.idle (termsF S) _
  try walk_nrm
  co_applyP r_take (i := 5) rfl (by first | kernel_rfl | decide +kernel) (by first | kernel_rfl | decide +kernel) (by first | kernel_rfl | decide +kernel) (.inl ⟨by rfl, fun _ hw => ⟨run_eq_of ?run5, ?guar5⟩⟩) hF ?rest5
  case run5 =>
    intro K hK
    obtain ⟨dd', hdd⟩ := hw; subst hdd
    go_simp
    exact hK
  case guar5 =>
    obtain ⟨dd', hdd⟩ := hw; subst hdd
    (intro e he; have hm := mem_listed he; simp [go_sem, *] at hm; try (subst hm; exact evF_cell _ _ (hxS _ (addBlk' _ _))))
  try walk_nrm
  co_applyP r_take (i := 6) rfl (by first | kernel_rfl | decide +kernel) (by first | kernel_rfl | decide +kernel) (by first | kernel_rfl | decide +kernel) (.inl ⟨by rfl, fun _ hw => ⟨run_eq_of ?run6, ?guar6⟩⟩) hF ?rest6
  case run6 =>
    intro K hK
    go_simp
    exact hK
  case guar6 =>
    rw [listed_nil (by simp [go_sem])]; exact Terms.idle (termsF S) _
  try walk_nrm
  co_applyP r_take (i := 7) rfl (by first | kernel_rfl | decide +kernel) (by first | kernel_rfl | decide +kernel) (by first | kernel_rfl | decide +kernel) (.inl ⟨by rfl, fun _ hw => ⟨run_eq_of ?run7, ?guar7⟩⟩) hF ?rest7
  case run7 =>
    intro K hK
    go_simp
    exact hK
  case guar7 =>
    rw [listed_nil (by simp [go_sem])]; exact Terms.idle (termsF S) _
  try walk_nrm
  co_applyP r_take (i := 8) rfl (by first | kernel_rfl | decide +kernel) (by first | kernel_rfl | decide +kernel) (by first | kernel_rfl | decide +kernel) (.inl ⟨by rfl, fun _ hw => ⟨run_eq_of ?run8, ?guar8⟩⟩) hF ?rest8
  case run8 =>
    intro K hK
    go_simp
    exact hK
  case guar8 =>
    rw [listed_nil (by simp [go_sem, *])]; exact Terms.idle (termsF S) _
  try walk_nrm
  co_applyP r_take (i := 9) rfl (by first | kernel_rfl | decide +kernel) (by first | kernel_rfl | decide +kernel) (by first | kernel_rfl | decide +kernel) (.inl ⟨by rfl, fun _ hw => ⟨run_eq_of ?run9, ?guar9⟩⟩) hF ?rest9
  case run9 =>
    intro K hK
    obtain ⟨dd', hdd⟩ := hw; subst hdd
    go_simp
    exact hK
  case guar9 =>
    obtain ⟨dd', hdd⟩ := hw; subst hdd
    (intro e he; have hm := mem_listed he; simp [go_sem, *] at hm; try (subst hm; exact evF_cell _ _ (hyS _ (addBlk' _ _))))
  try walk_nrm
  refine anyJ_call (i := 10) (HS.out.at ⟨dd, rfl⟩) (by first | kernel_rfl | decide +kernel) rfl (by rfl) rfl (by simp only [List.map_toArray, List.map_cons, List.map_nil]; rfl) (fun S' v w' hp => ?_)
  obtain ⟨hS', rfl, hF'⟩ := hp
  refine ⟨hS', hF', ?_⟩
  clear hF
  have hF := hF'
  clear hF'
  try walk_nrm
  co_applyP r_take (i := 11) rfl (by first | kernel_rfl | decide +kernel) (by first | kernel_rfl | decide +kernel) (by first | kernel_rfl | decide +kernel) (.inl ⟨by rfl, fun _ hw => ⟨run_eq_of ?run11, ?guar11⟩⟩) hF ?rest11
  case run11 =>
    intro K hK
    go_simp
    exact hK
  case guar11 =>
    rw [listed_nil (by simp [go_sem])]; exact Terms.idle (termsF S) _
  try walk_nrm
  co_applyP r_take (i := 12) rfl (by first | kernel_rfl | decide +kernel) (by first | kernel_rfl | decide +kernel) (by first | kernel_rfl | decide +kernel) (.inl ⟨by rfl, fun _ hw => ⟨run_eq_of ?run12, ?guar12⟩⟩) hF ?rest12
  case run12 =>
    intro K hK
    go_simp
    exact hK
  case guar12 =>
    rw [listed_nil (by simp [go_sem])]; exact Terms.idle (termsF S) _
  try walk_nrm
  refine anyJ_done (by first | kernel_rfl | decide +kernel) ?_ _
  obtain ⟨d', rfl⟩ := hF
  refine r_end ?_
  exact H.out _ _ _ _ _ _ _ _ _ _ _ _ _ _ _ _ _ _ _ _ _ _ _ _ _ _ _ _ _ _ _ _ _ _ _ _ _ _ _ _ _ _ _ _ _ _ _ _ _ _ _ _ _ _ _ _ _ _ _ _ _ _ _ _ _

set_option maxHeartbeats 8000000 in
theorem back_loop {u hd : Nat → Value} (hp : ∀ i, i < n → ∃ pd, p0 = some pd ∧ w.cell? (pd.add i) = some (u i)) (ha : ∀ i, i < n → ∃ ad, a0 = some ad ∧ w.cell? (ad.add i) = some (hd i)) (hpS : ∀ ad, p0 = some ad → ∀ x : Addr, x.block = ad.block → ¬ S (.cell x)) (haS : ∀ ad, a0 = some ad → ∀ x : Addr, x.block = ad.block → ¬ S (.cell x))
    (hsame : ∀ i, i < n → CallsR Try.prog S 12 #[u i, hd i] w (fun S' v w' => S' = S ∧ v = .bool true ∧ AtRel w w')) (hmax : n ≤ 4611686018427387904)
    (h : ∀ (j2 j3 j5 j7 j9 j10 j11 j14 j15 j16 j17 j18 j19 j20 j21 j22 j23 j24 j25 j26 j27 j28 j29 j30 j31 j32 j33 j34 j35 j36 j37 j38 j39 j40 j41 j42 j43 j44 j45 j46 j47 j48 j49 j50 j51 j52 j53 j54 j55 j56 j57 j58 j59 j60 j61 j62 j63 j64 j65 j66 j67 j68 j69 j70 : Value) (d : Nat), Reach Try.prog S (G ((base 5).at ⟨#[.slice a0 n ca, vt, j2, j3, .bool false, j5, .slice p0 n cp, j7, vu, j9, j10, j11, .bool true, num n, j14, j15, j16, j17, j18, j19, j20, j21, j22, j23, j24, j25, j26, j27, j28, j29, j30, j31, j32, j33, j34, j35, j36, j37, j38, j39, j40, j41, j42, j43, j44, j45, j46, j47, j48, j49, j50, j51, j52, j53, j54, j55, j56, j57, j58, j59, j60, j61, j62, j63, j64, j65, j66, j67, j68, j69, j70], []⟩ [.code (tail5 10)]) cs) (w.at d) X) :
    ∀ (k i : Nat), i + k = n → ∀ (j2 j3 j5 j7 j9 j10 j11 j14 j15 j16 j17 j18 j19 j20 j21 j22 j23 j24 j25 j26 j27 j28 j29 j30 j31 j32 j33 j34 j35 j36 j37 j38 j39 j40 j41 j42 j43 j44 j45 j46 j47 j48 j49 j50 j51 j52 j53 j54 j55 j56 j57 j58 j59 j60 j61 j62 j63 j64 j65 j66 j67 j68 j69 j70 : Value) (d : Nat), Reach Try.prog S (G ((base 5).at ⟨#[.slice a0 n ca, vt, j2, j3, .bool false, j5, .slice p0 n cp, j7, vu, j9, j10, j11, .bool true, num i, j14, j15, j16, j17, j18, j19, j20, j21, j22, j23, j24, j25, j26, j27, j28, j29, j30, j31, j32, j33, j34, j35, j36, j37, j38, j39, j40, j41, j42, j43, j44, j45, j46, j47, j48, j49, j50, j51, j52, j53, j54, j55, j56, j57, j58, j59, j60, j61, j62, j63, j64, j65, j66, j67, j68, j69, j70], []⟩ [.code L5b, .inLoop L5b, .inBlock 2, .code (tail5 10)]) cs) (w.at d) X := by
  intro k
  induction k with
  | zero =>
    intro i hi j2 j3 j5 j7 j9 j10 j11 j14 j15 j16 j17 j18 j19 j20 j21 j22 j23 j24 j25 j26 j27 j28 j29 j30 j31 j32 j33 j34 j35 j36 j37 j38 j39 j40 j41 j42 j43 j44 j45 j46 j47 j48 j49 j50 j51 j52 j53 j54 j55 j56 j57 j58 j59 j60 j61 j62 j63 j64 j65 j66 j67 j68 j69 j70 d
    obtain rfl : i = n := by omega
    clear hp ha hpS haS hsame hmax
    simp only [in5b, post5b, tail5, body5, L5a, L5b, Try.f5, Option.getD_some, num] at h ⊢
    refine r_seq ?_
    refine r_seq ?_
    (refine r_region ?_; simp only [List.size_toArray, List.length_cons, List.length_nil, Nat.reduceAdd, Nat.zero_add, List.range, List.range.loop])
    repeat (refine r_op rfl rfl (by decide) (fun w₁ h₁ K hK => ?_); obtain ⟨dd, hdd⟩ := h₁; subst hdd; (try simp only [at_at', alloc_at']); go_simp
            refine hK _ _ ⟨fun e he => (by have hm := mem_listed he; clear hK he; simp [go_sem] at hm), ?_⟩; clear hK K; try walk_nrm)
    refine r_end ?_
    refine r_cond (t := false) (by simp [Act.eval]) ?_; simp only [if_true, if_false, Bool.false_eq_true, ↓reduceIte]
    refine r_exit rfl ?_
    exact h _ _ _ _ _ _ _ _ _ _ _ _ _ _ _ _ _ _ _ _ _ _ _ _ _ _ _ _ _ _ _ _ _ _ _ _ _ _ _ _ _ _ _ _ _ _ _ _ _ _ _ _ _ _ _ _ _ _ _ _ _ _ _ _ _
  | succ k ih =>
    intro i hi j2 j3 j5 j7 j9 j10 j11 j14 j15 j16 j17 j18 j19 j20 j21 j22 j23 j24 j25 j26 j27 j28 j29 j30 j31 j32 j33 j34 j35 j36 j37 j38 j39 j40 j41 j42 j43 j44 j45 j46 j47 j48 j49 j50 j51 j52 j53 j54 j55 j56 j57 j58 j59 j60 j61 j62 j63 j64 j65 j66 j67 j68 j69 j70 d
    have hlt : i < n := by omega
    have hlt' : (i : Int) < (n : Int) := by omega
    have ew : IntKind.i64.wrap ((i : Int) + 1) = ((i + 1 : Nat) : Int) := by rw [IntKind.wrap_i64]; omega
    obtain ⟨pd, rfl, hx⟩ := hp i hlt
    obtain ⟨ad, rfl, hy⟩ := ha i hlt
    have hpost : ∀ (j2 j3 j5 j7 j9 j10 j11 j14 j15 j16 j17 j18 j19 j20 j21 j22 j23 j24 j25 j26 j27 j28 j29 j30 j31 j32 j33 j34 j35 j36 j37 j38 j39 j40 j41 j42 j43 j44 j45 j46 j47 j48 j49 j50 j51 j52 j53 j54 j55 j56 j57 j58 j59 j60 j61 j62 j63 j64 j65 j66 j67 j68 j69 j70 : Value) (d : Nat), Reach Try.prog S (G ((base 5).at ⟨#[.slice (some ad) n ca, vt, j2, j3, .bool false, j5, .slice (some pd) n cp, j7, vu, j9, j10, j11, .bool true, num i, j14, j15, j16, j17, j18, j19, j20, j21, j22, j23, j24, j25, j26, j27, j28, j29, j30, j31, j32, j33, j34, j35, j36, j37, j38, j39, j40, j41, j42, j43, j44, j45, j46, j47, j48, j49, j50, j51, j52, j53, j54, j55, j56, j57, j58, j59, j60, j61, j62, j63, j64, j65, j66, j67, j68, j69, j70], []⟩ [.inBlock 3, .code post5b, .inLoop L5b, .inBlock 2, .code (tail5 10)]) cs) (w.at d) X := by
      have IH := Lib.hid @ih
      clear hp ha hpS haS hsame hmax hx hy h ih
      intro j2 j3 j5 j7 j9 j10 j11 j14 j15 j16 j17 j18 j19 j20 j21 j22 j23 j24 j25 j26 j27 j28 j29 j30 j31 j32 j33 j34 j35 j36 j37 j38 j39 j40 j41 j42 j43 j44 j45 j46 j47 j48 j49 j50 j51 j52 j53 j54 j55 j56 j57 j58 j59 j60 j61 j62 j63 j64 j65 j66 j67 j68 j69 j70 d
      simp only [in5b, post5b, tail5, body5, L5a, L5b, Try.f5, Option.getD_some, num]
      repeat (first
      | refine r_end ?_ | refine r_skip ?_ | (refine r_region ?_; simp only [List.size_toArray, List.length_cons, List.length_nil, Nat.reduceAdd, Nat.zero_add, List.range, List.range.loop])
      | refine r_seq ?_ | refine r_block ?_ | refine r_inBlock ?_
      | (refine r_op rfl rfl (by decide) (fun w₁ h₁ K hK => ?_); obtain ⟨dd, hdd⟩ := h₁; subst hdd; (try simp only [at_at', alloc_at']); go_simp
         refine hK _ _ ⟨fun e he => (by have hm := mem_listed he; clear hK he; simp [go_sem, *] at hm; first | done | (subst hm; exact evF_cell _ _ id)), ?_⟩; clear hK K; try walk_nrm))
      refine r_inLoop ?_
      have l := IH.out (i + 1) (by omega)
      simp only [in5b, post5b, tail5, body5, L5a, L5b, Try.f5, Option.getD_some, num] at l
      exact l _ _ _ _ _ _ _ _ _ _ _ _ _ _ _ _ _ _ _ _ _ _ _ _ _ _ _ _ _ _ _ _ _ _ _ _ _ _ _ _ _ _ _ _ _ _ _ _ _ _ _ _ _ _ _ _ _ _ _ _ _ _ _ _ _
    have key := back_test (cs := cs) (X := X) (ca := ca) (cp := cp) (vt := vt) (vu := vu) hlt hx hy (hpS pd rfl) (haS ad rfl) (hsame i hlt) hpost
    clear hp ha hpS haS hsame hmax hx hy h ih hpost
    have KEY := Lib.hid @key
    clear key
    simp only [in5b, post5b, tail5, body5, L5a, L5b, Try.f5, Option.getD_some, num]
    refine r_seq ?_
    refine r_seq ?_
    (refine r_region ?_; simp only [List.size_toArray, List.length_cons, List.length_nil, Nat.reduceAdd, Nat.zero_add, List.range, List.range.loop])
    repeat (refine r_op rfl rfl (by decide) (fun w₁ h₁ K hK => ?_); obtain ⟨dd, hdd⟩ := h₁; subst hdd; (try simp only [at_at', alloc_at']); go_simp
            refine hK _ _ ⟨fun e he => (by have hm := mem_listed he; clear hK he; simp [go_sem] at hm), ?_⟩; clear hK K; try walk_nrm)
    refine r_end ?_
    refine r_cond (t := true) (by simp [Act.eval, hlt, hlt']) ?_; simp only [if_true, if_false, Bool.false_eq_true, ↓reduceIte]
    refine r_skip ?_
    refine r_seq ?_
    refine r_block ?_
    have key := KEY.out
    simp only [in5b, post5b, tail5, body5, L5a, L5b, Try.f5, Option.getD_some, num] at key
    exact key _ _ _ _ _ _ _ _ _ _ _ _ _ _ _ _ _ _ _ _ _ _ _ _ _ _ _ _ _ _ _ _ _ _ _ _ _ _ _ _ _ _ _ _ _ _ _ _ _ _ _ _ _ _ _ _ _ _ _ _ _ _ _ _ _
end
end Go.Proofs.Ytdpagejckahkkaa.Net
