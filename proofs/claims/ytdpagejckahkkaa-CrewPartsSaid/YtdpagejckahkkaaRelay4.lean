/- crew.Relay, called beside goroutines that only leave: it comes back with each value and all that is added to it, in a row of its own; all that was there is as it was. -/
import Derived.Test.YtdpagejckahkkaaRelay3
set_option linter.unusedSimpArgs false
set_option linter.unusedVariables false
namespace Go.Proofs.Ytdpagejckahkkaa.Net
open Go Go.Conc Go.RowKit

/-- What comes out of the chain. -/
def chainL (vs ys : List Int) : List Int := full (fun p => ys.getD (p - 1) 0) vs ys.length
theorem chainL_length (vs ys : List Int) : (chainL vs ys).length = vs.length := full_length _ _ _

section
variable (I : RIn) (cs : List Frame)
variable {S : Loc → Prop} {b B : Nat}


/-- Goroutine 0 has found the last channel shut. -/
def FinR (g : Goroutine) (w : World) : Prop := ∃ out j3 j4 j6 j7 j8 j9 j11 j12 j13 j14 j15 j16 j17 j18 j19 j20 j21 j22 j23 j24 j25 j26 j27 j28 j29 j32 j33 j34 j35 j36 j37 j38, g = gGot I cs out (.tuple #[zer, .bool false]) j3 j4 j6 j7 j8 j9 j11 j12 j13 j14 j15 j16 j17 j18 j19 j20 j21 j22 j23 j24 j25 j26 j27 j28 j29 j32 j33 j34 j35 j36 j37 j38 ∧ AF I out (chainL I.vs I.ys) w

theorem recv_at {Next : Goroutine → World → Prop} (out : Value) (j3 j4 j6 j7 j8 j9 j11 j12 j13 j14 j15 j16 j17 j18 j19 j20 j21 j22 j23 j24 j25 j26 j27 j28 j29 j31 j32 j33 j34 j35 j36 j37 j38 : Value) (w : World) (h : ∀ w₂, AsideN (cN I.W.heap.size) (I.ys.length + 1) w w₂ → Next (gRecv I cs out j3 j4 j6 j7 j8 j9 j11 j12 j13 j14 j15 j16 j17 j18 j19 j20 j21 j22 j23 j24 j25 j26 j27 j28 j29 j31 j32 j33 j34 j35 j36 j37 j38) w₂) : AtEat (relay I S b B) Next (gRecv I cs out j3 j4 j6 j7 j8 j9 j11 j12 j13 j14 j15 j16 j17 j18 j19 j20 j21 j22 j23 j24 j25 j26 j27 j28 j29 j31 j32 j33 j34 j35 j36 j37 j38) w := by
  refine ⟨rfl, #[], ?_, by simp, h⟩
  show stepG Try.prog true _ w = _
  unfold gRecv
  have e : (relay I S b B).c ((relay I S b B).T - 1) = cN I.W.heap.size I.ys.length := rfl
  rw [e, stepG_comm (cases := #[rcase (cN I.W.heap.size I.ys.length) zer]) (blocking := true) (shape := .recv true) (w' := w) rfl rfl (by decide) (by simp [go_sem, execOp, rcase, Act.eval, zer, ops8r, L8b, tail8, body8, Try.f8]), listed_none (by simp [go_sem, execOp, Act.eval, ops8r, L8b, tail8, body8, Try.f8])]
  rfl

theorem stopE_at (hI : I.Ok S) (hB : I.W.heap.size + 5 + I.ys.length + 2 * I.vs.length ≤ B) : ∀ (l xs : List Int) (out : Value) (j3 j4 j6 j7 j8 j9 j11 j12 j13 j14 j15 j16 j17 j18 j19 j20 j21 j22 j23 j24 j25 j26 j27 j28 j29 j31 j32 j33 j34 j35 j36 j37 j38 : Value) (w : World), AF I out xs w → xs ++ l = chainL I.vs I.ys → StopE (relay I S b B) (FinR I cs) l (gRecv I cs out j3 j4 j6 j7 j8 j9 j11 j12 j13 j14 j15 j16 j17 j18 j19 j20 j21 j22 j23 j24 j25 j26 j27 j28 j29 j31 j32 j33 j34 j35 j36 j37 j38) w
  | [], xs, out, j3, j4, j6, j7, j8, j9, j11, j12, j13, j14, j15, j16, j17, j18, j19, j20, j21, j22, j23, j24, j25, j26, j27, j28, j29, j31, j32, j33, j34, j35, j36, j37, j38, w, hF, hl => by
    have e : xs = chainL I.vs I.ys := by simpa using hl
    subst e
    show AtEat (relay I S b B) (fun g₂ w₂ => FinR I cs (Go.Conc.served g₂ (.tuple #[zer, .bool false])) w₂) _ w
    exact recv_at I cs out j3 j4 j6 j7 j8 j9 j11 j12 j13 j14 j15 j16 j17 j18 j19 j20 j21 j22 j23 j24 j25 j26 j27 j28 j29 j31 j32 j33 j34 j35 j36 j37 j38 w fun w₂ r => ⟨out, _, _, _, _, _, _, _, _, _, _, _, _, _, _, _, _, _, _, _, _, _, _, _, _, _, _, _, _, _, _, _, _, rfl, hF.rely rfl r⟩
  | v :: l, xs, out, j3, j4, j6, j7, j8, j9, j11, j12, j13, j14, j15, j16, j17, j18, j19, j20, j21, j22, j23, j24, j25, j26, j27, j28, j29, j31, j32, j33, j34, j35, j36, j37, j38, w, hF, hl => by
    have hlen := congrArg List.length hl
    rw [chainL_length, List.length_append, List.length_cons] at hlen
    show AtEat (relay I S b B) (fun g₂ w₂ => Eats (relay I S b B) (FinR I cs) l (Go.Conc.served g₂ (.tuple #[num v, .bool true])) w₂) _ w
    refine recv_at I cs out j3 j4 j6 j7 j8 j9 j11 j12 j13 j14 j15 j16 j17 j18 j19 j20 j21 j22 j23 j24 j25 j26 j27 j28 j29 j31 j32 j33 j34 j35 j36 j37 j38 w fun w₂ r => ?_
    show Eats (relay I S b B) (FinR I cs) l _ w₂
    rw [eats_iff]
    exact ⟨60, got_goes I cs hI (m := I.ys.length + 1) rfl hB out xs v (by omega) (fun out j3 j4 j6 j7 j8 j9 j11 j12 j13 j14 j15 j16 j17 j18 j19 j20 j21 j22 j23 j24 j25 j26 j27 j28 j29 j31 j32 j33 j34 j35 j36 j37 j38 w hF' => stopE_at hI hB l (xs ++ [v]) out j3 j4 j6 j7 j8 j9 j11 j12 j13 j14 j15 j16 j17 j18 j19 j20 j21 j22 j23 j24 j25 j26 j27 j28 j29 j31 j32 j33 j34 j35 j36 j37 j38 w hF' (by simpa using hl)) _ _ _ _ _ _ _ _ _ _ _ _ _ _ _ _ _ _ _ _ _ _ _ _ _ _ _ _ _ _ _ _ w₂ (hF.rely rfl r)⟩


theorem first_af {w : World} (h : G0 I I.ys.length w) : AF I (.slice none 0 0) [] w := ⟨h.kr, World.ownsRow_nil _ _ _ _, by rw [h.size]; omega, by rw [h.size]; simp⟩

theorem head_eats (hI : I.Ok S) (hB : I.W.heap.size + 5 + I.ys.length + 2 * I.vs.length ≤ B) (j3 j4 j7 j8 j9 j10 j11 j12 j13 j14 j15 j16 j17 j21 j22 j23 j24 j25 j26 j27 j28 j29 j30 j31 j32 j33 j34 j35 j36 j37 j38 : Value) (w : World) (hF : G0 I I.ys.length w) : Goes Try.prog true (AsideN (cN I.W.heap.size) (I.ys.length + 1)) (DM (relay I S b B) (I.ys.length + 1)) (StopE (relay I S b B) (FinR I cs) (chainL I.vs I.ys)) 40 (gHead I cs I.ys.length j3 j4 j7 j8 j9 j10 j11 j12 j13 j14 j15 j16 j17 j21 j22 j23 j24 j25 j26 j27 j28 j29 j30 j31 j32 j33 j34 j35 j36 j37 j38) w :=
  head_end I cs rfl (fun j3 j4 j6 j7 j8 j9 j11 j12 j13 j14 j15 j16 j17 j18 j19 j20 j21 j22 j23 j24 j25 j26 j27 j28 j29 j31 j32 j33 j34 j35 j36 j37 j38 w hF => stopE_at I cs hI hB _ [] _ j3 j4 j6 j7 j8 j9 j11 j12 j13 j14 j15 j16 j17 j18 j19 j20 j21 j22 j23 j24 j25 j26 j27 j28 j29 j31 j32 j33 j34 j35 j36 j37 j38 w (first_af I hF) rfl) j3 j4 j7 j8 j9 j10 j11 j12 j13 j14 j15 j16 j17 j21 j22 j23 j24 j25 j26 j27 j28 j29 j30 j31 j32 j33 j34 j35 j36 j37 j38 w hF
theorem head_starts (hI : I.Ok S) (hB : I.W.heap.size + 4 ≤ B) (hl : I.ys.length ≤ 64) (k i : Nat) (hi : i < I.ys.length) (ih : ∀ j3 j4 j6 j7 j8 j10 j11 j12 j13 j14 j15 j16 j17 j21 j22 j23 j24 j25 j26 j27 j28 j29 j30 j31 j32 j33 j34 j35 j36 j37 j38 w, G0 I (i + 1) w → Spawns (relay I S b B) (Eats (relay I S b B) (FinR I cs) (chainL I.vs I.ys)) k (gWent I cs i j3 j4 j6 j7 j8 j10 j11 j12 j13 j14 j15 j16 j17 j21 j22 j23 j24 j25 j26 j27 j28 j29 j30 j31 j32 j33 j34 j35 j36 j37 j38) w)
    (j3 j4 j7 j8 j9 j10 j11 j12 j13 j14 j15 j16 j17 j21 j22 j23 j24 j25 j26 j27 j28 j29 j30 j31 j32 j33 j34 j35 j36 j37 j38 : Value) (w : World) (hF : G0 I i w) : Goes Try.prog true (AsideN (cN I.W.heap.size) (i + 1)) (DM (relay I S b B) (i + 1)) (AtGoN (relay I S b B) (i + 1) (Spawns (relay I S b B) (Eats (relay I S b B) (FinR I cs) (chainL I.vs I.ys)) k)) 40 (gHead I cs i j3 j4 j7 j8 j9 j10 j11 j12 j13 j14 j15 j16 j17 j21 j22 j23 j24 j25 j26 j27 j28 j29 j30 j31 j32 j33 j34 j35 j36 j37 j38) w :=
  head_go I cs hI hB hl i rfl I.ys[i] (List.getElem?_eq_getElem hi) (fun j3 j4 j7 j8 j10 j11 j12 j13 j14 j15 j16 j17 j21 j22 j23 j24 j28 j29 j30 j31 j32 j33 j34 j35 j36 j37 j38 w hF => go_at I cs i I.ys[i] (List.getElem?_eq_getElem hi) j3 j4 j7 j8 j10 j11 j12 j13 j14 j15 j16 j17 j21 j22 j23 j24 j28 j29 j30 j31 j32 j33 j34 j35 j36 j37 j38 w hF ih) j3 j4 j7 j8 j9 j10 j11 j12 j13 j14 j15 j16 j17 j21 j22 j23 j24 j25 j26 j27 j28 j29 j30 j31 j32 j33 j34 j35 j36 j37 j38 w hF

theorem went_spawns (hI : I.Ok S) (hB : I.W.heap.size + 5 + I.ys.length + 2 * I.vs.length ≤ B) (hl : I.ys.length ≤ 64) : ∀ (k i : Nat), i + 1 + k = I.ys.length → ∀ (j3 j4 j6 j7 j8 j10 j11 j12 j13 j14 j15 j16 j17 j21 j22 j23 j24 j25 j26 j27 j28 j29 j30 j31 j32 j33 j34 j35 j36 j37 j38 : Value) (w : World), G0 I (i + 1) w →
    Spawns (relay I S b B) (Eats (relay I S b B) (FinR I cs) (chainL I.vs I.ys)) k (gWent I cs i j3 j4 j6 j7 j8 j10 j11 j12 j13 j14 j15 j16 j17 j21 j22 j23 j24 j25 j26 j27 j28 j29 j30 j31 j32 j33 j34 j35 j36 j37 j38) w
  | 0, i, hk, j3, j4, j6, j7, j8, j10, j11, j12, j13, j14, j15, j16, j17, j21, j22, j23, j24, j25, j26, j27, j28, j29, j30, j31, j32, j33, j34, j35, j36, j37, j38, w, hF => by
    have hi : I.ys.length = i + 1 := by omega
    show Eats _ _ _ _ _
    rw [eats_iff]
    exact ⟨51, went_goes I cs 40 i (by omega) hl (fun j3 j4 j7 j8 j9 j10 j11 j12 j13 j14 j15 j16 j17 j21 j22 j23 j24 j25 j26 j27 j28 j29 j30 j31 j32 j33 j34 j35 j36 j37 j38 w hF => by rw [← hi] at hF ⊢; exact head_eats I cs hI hB j3 j4 j7 j8 j9 j10 j11 j12 j13 j14 j15 j16 j17 j21 j22 j23 j24 j25 j26 j27 j28 j29 j30 j31 j32 j33 j34 j35 j36 j37 j38 w hF) j3 j4 j6 j7 j8 j10 j11 j12 j13 j14 j15 j16 j17 j21 j22 j23 j24 j25 j26 j27 j28 j29 j30 j31 j32 j33 j34 j35 j36 j37 j38 w hF⟩
  | k + 1, i, hk, j3, j4, j6, j7, j8, j10, j11, j12, j13, j14, j15, j16, j17, j21, j22, j23, j24, j25, j26, j27, j28, j29, j30, j31, j32, j33, j34, j35, j36, j37, j38, w, hF => by
    have e : (relay I S b B).T - (k + 1) = i + 1 + 1 := by show I.ys.length + 1 - (k + 1) = _; omega
    refine ⟨51, ?_⟩
    rw [e]
    exact went_goes I cs 40 i (by omega) hl (fun j3 j4 j7 j8 j9 j10 j11 j12 j13 j14 j15 j16 j17 j21 j22 j23 j24 j25 j26 j27 j28 j29 j30 j31 j32 j33 j34 j35 j36 j37 j38 w hF => head_starts I cs hI (by omega) hl k (i + 1) (by omega) (went_spawns hI hB hl k (i + 1) (by omega)) j3 j4 j7 j8 j9 j10 j11 j12 j13 j14 j15 j16 j17 j21 j22 j23 j24 j25 j26 j27 j28 j29 j30 j31 j32 j33 j34 j35 j36 j37 j38 w hF) j3 j4 j6 j7 j8 j10 j11 j12 j13 j14 j15 j16 j17 j21 j22 j23 j24 j25 j26 j27 j28 j29 j30 j31 j32 j33 j34 j35 j36 j37 j38 w hF

theorem went0_spawns (hI : I.Ok S) (hB : I.W.heap.size + 5 + I.ys.length + 2 * I.vs.length ≤ B) (hl : I.ys.length ≤ 64) (j3 j4 j6 j7 j8 j9 j10 j11 j12 j13 j14 j15 j16 j17 j18 j19 j20 j21 j22 j23 j24 j25 j26 j27 j28 j29 j30 j31 j32 j33 j34 j35 j36 j37 j38 : Value) (w : World) (hF : G0 I 0 w) :
    Spawns (relay I S b B) (Eats (relay I S b B) (FinR I cs) (chainL I.vs I.ys)) I.ys.length (gWent0 I cs j3 j4 j6 j7 j8 j9 j10 j11 j12 j13 j14 j15 j16 j17 j18 j19 j20 j21 j22 j23 j24 j25 j26 j27 j28 j29 j30 j31 j32 j33 j34 j35 j36 j37 j38) w := by
  by_cases hz : I.ys.length = 0
  · rw [hz]
    show Eats _ _ _ _ _
    rw [eats_iff]
    exact ⟨55, went0_goes I cs hI (by omega) 40 (fun j3 j4 j7 j8 j9 j10 j11 j12 j13 j14 j15 j16 j17 j21 j22 j23 j24 j25 j26 j27 j28 j29 j30 j31 j32 j33 j34 j35 j36 j37 j38 w hF => by rw [← hz] at hF ⊢; exact head_eats I cs hI hB j3 j4 j7 j8 j9 j10 j11 j12 j13 j14 j15 j16 j17 j21 j22 j23 j24 j25 j26 j27 j28 j29 j30 j31 j32 j33 j34 j35 j36 j37 j38 w hF) j3 j4 j6 j7 j8 j9 j10 j11 j12 j13 j14 j15 j16 j17 j18 j19 j20 j21 j22 j23 j24 j25 j26 j27 j28 j29 j30 j31 j32 j33 j34 j35 j36 j37 j38 w hF⟩
  · obtain ⟨k, hk⟩ : ∃ k, I.ys.length = k + 1 := ⟨I.ys.length - 1, by omega⟩
    have e : (relay I S b B).T - (k + 1) = 0 + 1 := by show I.ys.length + 1 - (k + 1) = _; omega
    rw [hk]
    refine ⟨55, ?_⟩
    rw [e]
    exact went0_goes I cs hI (by omega) 40 (fun j3 j4 j7 j8 j9 j10 j11 j12 j13 j14 j15 j16 j17 j21 j22 j23 j24 j25 j26 j27 j28 j29 j30 j31 j32 j33 j34 j35 j36 j37 j38 w hF => head_starts I cs hI (by omega) hl k 0 (by omega) (went_spawns I cs hI hB hl k 0 (by omega)) j3 j4 j7 j8 j9 j10 j11 j12 j13 j14 j15 j16 j17 j21 j22 j23 j24 j25 j26 j27 j28 j29 j30 j31 j32 j33 j34 j35 j36 j37 j38 w hF) j3 j4 j6 j7 j8 j9 j10 j11 j12 j13 j14 j15 j16 j17 j18 j19 j20 j21 j22 j23 j24 j25 j26 j27 j28 j29 j30 j31 j32 j33 j34 j35 j36 j37 j38 w hF
end
end Go.Proofs.Ytdpagejckahkkaa.Net
