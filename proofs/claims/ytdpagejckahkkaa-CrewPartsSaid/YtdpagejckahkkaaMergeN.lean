/- crew.Merge, called beside goroutines that only leave: it comes back with what the document's Merge takes, in a row of its own; all that was there is as it was. -/
import Derived.Test.YtdpagejckahkkaaMergeM
import Derived.Test.YtdpagejckahkkaaRelay5
set_option linter.unusedSimpArgs false
set_option linter.unusedVariables false
set_option maxRecDepth 100000
namespace Go.Proofs.Ytdpagejckahkkaa.Net
open Go Go.Conc Go.RowKit Go.ConcR.Gen
open Go.ConcN (ShN WgLive upd upd_same upd_ne)
open Go.ConcR (stA smA rd wr mk WgAt KK)

/-! ### the plain law -/
/-- Turn by turn: of whom, and what it finds. -/
def turnsL (T : Nat) : (Nat → List Int) → List Int → List (Nat × Option Int)
  | _, [] => []
  | rest, t :: ts => if 0 ≤ t ∧ t < T then (t.toNat, (rest t.toNat).head?) :: turnsL T (upd rest t.toNat (rest t.toNat).tail) ts else turnsL T rest ts
theorem agrees_turns (T : Nat) : ∀ (ts : List Int) (rest : Nat → List Int), Agrees T rest (turnsL T rest ts)
  | [], _ => trivial
  | t :: ts, rest => by
    unfold turnsL
    split
    · rename_i h
      exact ⟨by omega, rfl, agrees_turns T ts _⟩
    · exact agrees_turns T ts rest
def gets (l : List (Nat × Option Int)) : List Int := l.filterMap (·.2)
theorem count_snoc (l : List Int) (t q : Int) : (l ++ [t]).count q = l.count q + if t = q then 1 else 0 := by
  rw [List.count_append, List.count_singleton]
  simp [beq_iff_eq]
theorem gets_turns (ps : List (List Int)) (ts : List Int) : ∀ (n i : Nat) (rest : Nat → List Int), i + n = ts.length → (∀ p, rest p = (ps.getD p []).drop ((ts.take i).count (p : Int))) →
    gets (turnsL ps.length rest (ts.drop i)) = (List.range' i n).filterMap (stepR ps ts)
  | 0, i, rest, hi, _ => by
    rw [List.drop_of_length_le (by omega)]
    rfl
  | n + 1, i, rest, hi, hr => by
    have hlt : i < ts.length := by omega
    have e1 : ts.drop i = ts[i] :: ts.drop (i + 1) := List.drop_eq_getElem_cons hlt
    have e2 : ts.take (i + 1) = ts.take i ++ [ts[i]] := List.take_succ_eq_append_getElem hlt
    have e3 : List.range' i (n + 1) = i :: List.range' (i + 1) n := rfl
    rw [e1, e3, List.filterMap_cons]
    unfold turnsL
    have hs : stepR ps ts i = if 0 ≤ ts[i] ∧ ts[i] < ps.length then (ps.getD ts[i].toNat [])[(ts.take i).count ts[i]]? else none := by
      unfold stepR; rw [List.getElem?_eq_getElem hlt]
    rw [hs]
    by_cases h : 0 ≤ ts[i] ∧ ts[i] < ps.length
    · rw [if_pos h, if_pos h]
      have et : ((ts[i].toNat : Nat) : Int) = ts[i] := by omega
      have eh : (rest ts[i].toNat).head? = (ps.getD ts[i].toNat [])[(ts.take i).count ts[i]]? := by
        rw [hr, et, List.head?_drop]
      have ih := gets_turns ps ts n (i + 1) (upd rest ts[i].toNat (rest ts[i].toNat).tail) (by omega) fun p => by
        rw [e2, count_snoc]
        by_cases e : p = ts[i].toNat
        · subst e
          rw [upd_same, hr, et, if_pos rfl, List.tail_drop]
        · rw [upd_ne _ _ e, hr, if_neg (by omega)]
          rfl
      rw [← eh, ← ih]
      unfold gets
      rw [List.filterMap_cons]
    · rw [if_neg h, if_neg h]
      refine gets_turns ps ts n (i + 1) rest (by omega) fun p => ?_
      rw [e2, count_snoc, hr]
      by_cases e : ts[i] = (p : Int)
      · rw [if_pos e]
        have hp : ps.length ≤ p := by
          refine Nat.le_of_not_lt fun hp => h ?_
          omega
        have : ps.getD p [] = [] := by rw [List.getD_eq_getElem?_getD, List.getElem?_eq_none hp]; rfl
        rw [this]
        simp
      · rw [if_neg e]
        rfl
theorem mergeR_turns (ps : List (List Int)) (ts : List Int) (h : ps.length ≤ 64) : gets (turnsL ps.length (fun p => ps.getD p []) ts) = mergeR ps ts := by
  have := gets_turns ps ts ts.length 0 (fun p => ps.getD p []) (by omega) (fun p => by simp)
  rw [List.drop_zero] at this
  rw [this, mergeR, if_neg (by omega), List.range_eq_range']

/-! ### goroutine 0's turns -/
section
variable {C : MCfg} {Anch Anch' Fin Fin' : Goroutine → World → Prop}
def StopT (C : MCfg) (Anch : Goroutine → World → Prop) : List (Nat × Option Int) → Goroutine → World → Prop
  | [] => AtStopM C Anch
  | (t, o) :: l => AtTurnM C t (TurnsM C Anch l) (found o)
theorem turnsM_iff (l : List (Nat × Option Int)) (g : Goroutine) (w : World) : TurnsM C Anch l g w ↔ ∃ n, Goes C.P true (AsideM C C.T) (D0 C C.T) (StopT C Anch l) n g w := by
  cases l with
  | nil => exact Iff.rfl
  | cons e l => obtain ⟨t, o⟩ := e; exact Iff.rfl
theorem goesMono {P : Program} {main : Bool} {R : World → World → Prop} {D : World → World → Array Event → Prop} {Stop Stop' : Goroutine → World → Prop} (h : ∀ g w, Stop g w → Stop' g w) :
    ∀ {n : Nat} {g : Goroutine} {w : World}, Goes P main R D Stop n g w → Goes P main R D Stop' n g w
  | 0, _, _, hg => fun w₁ r => h _ _ (hg w₁ r)
  | n + 1, g, w, hg => by
    rcases hg with hs | ⟨hr, hst⟩
    · exact .inl fun w₁ r => h _ _ (hs w₁ r)
    · refine .inr ⟨hr, fun w₁ r => ?_⟩
      obtain ⟨g', w', es, e, hd, hn⟩ := goes_elim (hst w₁ r)
      rw [e]
      exact ⟨hd, goesMono h hn⟩
theorem GP.mono {m : Nat} {Stop Stop' : Goroutine → World → Prop} (h : ∀ g w, Stop g w → Stop' g w) {g : Goroutine} {w : World} (x : GP C m Stop g w) : GP C m Stop' g w := let ⟨n, hn⟩ := x; ⟨n, goesMono h hn⟩
theorem At0Mark.mono {x : Mark} {Next Next' : Goroutine → World → Prop} (h : ∀ g w, Next g w → Next' g w) {g : Goroutine} {w : World} (y : At0Mark C x Next g w) : At0Mark C x Next' g w := let ⟨h0, g', h1, h2⟩ := y; ⟨h0, g', h1, h _ _ h2⟩
theorem AtKeM.mono (h : ∀ g w, Fin g w → Fin' g w) {g : Goroutine} {w : World} (x : AtKeM C Fin g w) : AtKeM C Fin' g w := At0Mark.mono (fun _ _ y => GP.mono (fun _ _ z => At0Mark.mono h z) y) x
theorem AtW4M.mono (h : ∀ g w, Fin g w → Fin' g w) {g : Goroutine} {w : World} (x : AtW4M C Fin g w) : AtW4M C Fin' g w := ⟨x.1, fun hw => let ⟨g', h1, h2⟩ := x.2 hw; ⟨g', h1, GP.mono (fun _ _ y => AtKeM.mono h y) h2⟩⟩
theorem AtW3M.mono (h : ∀ g w, Fin g w → Fin' g w) {g : Goroutine} {w : World} (x : AtW3M C Fin g w) : AtW3M C Fin' g w := ⟨x.1, x.2.1, x.2.2.1, fun hw => let ⟨g', h1, h2⟩ := x.2.2.2 hw; ⟨g', h1, GP.mono (fun _ _ y => AtW4M.mono h y) h2⟩⟩
theorem AtW2M.mono (h : ∀ g w, Fin g w → Fin' g w) (ha : ∀ g w, Anch g w → Anch' g w) {vs : Nat} {g : Goroutine} {w : World} (x : AtW2M C Fin Anch vs g w) : AtW2M C Fin' Anch' vs g w :=
  ⟨x.1, fun v hv hw => ⟨fun e => let ⟨g', h1, h2⟩ := (x.2 v hv hw).1 e; ⟨g', h1, GP.mono (fun _ _ y => AtW3M.mono h y) h2⟩, fun e => let ⟨g', h1, h2⟩ := (x.2 v hv hw).2 e; ⟨g', h1, GP.mono ha h2⟩⟩⟩
theorem AtW1M.mono (h : ∀ g w, Fin g w → Fin' g w) (ha : ∀ g w, Anch g w → Anch' g w) {g : Goroutine} {w : World} (x : AtW1M C Fin Anch g w) : AtW1M C Fin' Anch' g w :=
  ⟨x.1, fun v hv hw => let ⟨g', h1, h2, h3⟩ := x.2 v hv hw; ⟨g', h1, fun e => GP.mono (fun _ _ y => AtKeM.mono h y) (h2 e), fun e => GP.mono (fun _ _ y => AtW2M.mono h ha y) (h3 e)⟩⟩
end

section
variable (I : MIn) (cs : List Frame)
variable {S : Loc → Prop} {b B : Nat}

theorem anch_waits (hI : I.Ok S) (hB : I.N < B) (res : List Int) (g : Goroutine) (w : World) (h : AnchM I cs res g w) : Goes Try.prog true (AsideM (mcfg I S b B) I.ps.length) (D0 (mcfg I S b B) I.ps.length) (AtW1M (mcfg I S b B) (FinM I cs res) (AnchM I cs res)) 20 g w := by
  obtain ⟨out, j2, j3, j4, j8, j9, j11, j12, j13, j14, j15, j16, j17, j18, j19, j20, j21, j22, j23, j24, j25, j26, j27, j28, j29, j30, j31, j32, j33, j34, j35, j36, j37, j38, j39, j40, j41, j42, j43, j44, j45, j46, j47, j48, j49, j50, j51, j52, j53, j54, j55, j56, j57, j58, j59, j60, j61, j62, j63, j64, j65, j66, j67, j68, j69, j70, j71, h⟩ := h
  have hap : ∀ l, (mcfg I S b B).Still l → ¬ ShN (mcfg I S b B).Wg l := fun l hl hw => by
    obtain ⟨x, rfl, hx⟩ := hw
    rcases hl with ⟨y, e, hy, _⟩ | ⟨p, e⟩ | e
    · obtain rfl := Loc.cell.inj e
      have hx : x.block = I.N := hx
      omega
    · cases e
    · cases e
  exact goesMono (fun g w x => AtW1M.mono (fun g w y => ⟨out, j2, j3, j4, j8, j9, j11, j12, j13, j14, j15, j16, j17, j18, j19, j20, j21, j22, j23, j24, j25, j26, j27, j28, j29, j30, j31, j32, j33, j34, j35, j36, j37, j38, j39, j40, j41, j42, j43, j44, j45, j46, j47, j48, j49, j50, j51, j52, j53, j54, j55, j56, j57, j58, j59, j60, j61, j62, j63, j64, j65, j66, j67, j68, j69, j70, j71, y⟩) (fun g w y => ⟨out, j2, j3, j4, j8, j9, j11, j12, j13, j14, j15, j16, j17, j18, j19, j20, j21, j22, j23, j24, j25, j26, j27, j28, j29, j30, j31, j32, j33, j34, j35, j36, j37, j38, j39, j40, j41, j42, j43, j44, j45, j46, j47, j48, j49, j50, j51, j52, j53, j54, j55, j56, j57, j58, j59, j60, j61, j62, j63, j64, j65, j66, j67, j68, j69, j70, j71, y⟩) x)
    (wait_head (C := mcfg I S b B) rfl rfl hap hB (F := TF I out res) (fun w w₁ r h => h.rely r) (fun w h => h.km.live) g w h)

theorem turns_at (hI : I.Ok S) (hB : I.N + 6 + I.ps.length + 2 * I.ts.length ≤ B) (res : List Int) : ∀ (ts' : List Int) (i : Nat) (rest : Nat → List Int) (xs : List Int) (out : Value), I.ts.drop i = ts' → i + ts'.length = I.ts.length → xs.length ≤ i → xs ++ gets (turnsL I.ps.length rest ts') = res →
    ∀ (j2 j3 j4 j8 j9 j11 j12 j13 j14 j15 j16 j17 j18 j19 j20 j21 j22 j23 j24 j25 j26 j27 j28 j29 j30 j31 j32 j33 j34 j35 j36 j37 j38 j39 j40 j44 j45 j46 j47 j48 j49 j50 j51 j52 j53 j54 j55 j56 j57 j58 j59 j60 j61 j62 j63 j64 j65 j66 j67 j68 j69 j70 j71 : Value) (w : World), TF I out xs w → Goes Try.prog true (AsideM (mcfg I S b B) I.ps.length) (D0 (mcfg I S b B) I.ps.length) (StopT (mcfg I S b B) (AnchM I cs res) (turnsL I.ps.length rest ts')) (100 * (ts'.length + 1)) (gTurn I cs i out j2 j3 j4 j8 j9 j11 j12 j13 j14 j15 j16 j17 j18 j19 j20 j21 j22 j23 j24 j25 j26 j27 j28 j29 j30 j31 j32 j33 j34 j35 j36 j37 j38 j39 j40 j44 j45 j46 j47 j48 j49 j50 j51 j52 j53 j54 j55 j56 j57 j58 j59 j60 j61 j62 j63 j64 j65 j66 j67 j68 j69 j70 j71) w
  | [], i, rest, xs, out, hd, hl, hx, hres, j2, j3, j4, j8, j9, j11, j12, j13, j14, j15, j16, j17, j18, j19, j20, j21, j22, j23, j24, j25, j26, j27, j28, j29, j30, j31, j32, j33, j34, j35, j36, j37, j38, j39, j40, j44, j45, j46, j47, j48, j49, j50, j51, j52, j53, j54, j55, j56, j57, j58, j59, j60, j61, j62, j63, j64, j65, j66, j67, j68, j69, j70, j71, w, hF => by
    have hi : i = I.ts.length := by simpa using hl
    subst hi
    have e : xs = res := by simpa [turnsL, gets] using hres
    subst e
    exact (turn_end I cs (Stop := StopT (mcfg I S b B) (AnchM I cs xs) (turnsL I.ps.length rest [])) (fun j2 j3 j4 j8 j9 j11 j12 j13 j14 j15 j16 j17 j18 j19 j20 j21 j22 j23 j24 j25 j26 j27 j28 j29 j30 j31 j32 j33 j34 j35 j36 j37 j38 j39 j40 j41 j42 j43 j44 j45 j46 j47 j48 j49 j50 j51 j52 j53 j54 j55 j56 j57 j58 j59 j60 j61 j62 j63 j64 j65 j66 j67 j68 j70 j71 w hF => closeM_at I cs out j2 j3 j4 j8 j9 j11 j12 j13 j14 j15 j16 j17 j18 j19 j20 j21 j22 j23 j24 j25 j26 j27 j28 j29 j30 j31 j32 j33 j34 j35 j36 j37 j38 j39 j40 j41 j42 j43 j44 j45 j46 j47 j48 j49 j50 j51 j52 j53 j54 j55 j56 j57 j58 j59 j60 j61 j62 j63 j64 j65 j66 j67 j68 j70 j71 w fun s r w₂ r' => shut_waits I cs hI xs out _ _ _ _ _ _ _ _ _ _ _ _ _ _ _ _ _ _ _ _ _ _ _ _ _ _ _ _ _ _ _ _ _ _ _ _ _ _ _ _ _ _ _ _ _ _ _ _ _ _ _ _ _ _ _ _ _ _ _ _ _ _ _ _ _ _ w₂ ((hF.shut s r).rely r')) j2 j3 j4 j8 j9 j11 j12 j13 j14 j15 j16 j17 j18 j19 j20 j21 j22 j23 j24 j25 j26 j27 j28 j29 j30 j31 j32 j33 j34 j35 j36 j37 j38 j39 j40 j44 j45 j46 j47 j48 j49 j50 j51 j52 j53 j54 j55 j56 j57 j58 j59 j60 j61 j62 j63 j64 j65 j66 j67 j68 j69 j70 j71 w hF).mono (by simp)
  | t :: ts', i, rest, xs, out, hd, hl, hx, hres, j2, j3, j4, j8, j9, j11, j12, j13, j14, j15, j16, j17, j18, j19, j20, j21, j22, j23, j24, j25, j26, j27, j28, j29, j30, j31, j32, j33, j34, j35, j36, j37, j38, j39, j40, j44, j45, j46, j47, j48, j49, j50, j51, j52, j53, j54, j55, j56, j57, j58, j59, j60, j61, j62, j63, j64, j65, j66, j67, j68, j69, j70, j71, w, hF => by
    have hlt : i < I.ts.length := by simp only [List.length_cons] at hl; omega
    have e1 := List.drop_eq_getElem_cons hlt
    rw [e1] at hd
    obtain ⟨ht, hd'⟩ := List.cons.inj hd
    have ht' : I.ts[i]? = some t := by rw [List.getElem?_eq_getElem hlt, ht]
    have hl' : i + 1 + ts'.length = I.ts.length := by simp only [List.length_cons] at hl; omega
    have en : 100 * (ts'.length + 1) + 60 ≤ 100 * ((t :: ts').length + 1) := by simp only [List.length_cons]; omega
    by_cases h : 0 ≤ t ∧ t < I.ps.length
    · obtain ⟨p, rfl⟩ : ∃ p : Nat, t = (p : Int) := ⟨t.toNat, by omega⟩
      have hp : p < I.ps.length := by omega
      have eL : turnsL I.ps.length rest ((p : Int) :: ts') = (p, (rest p).head?) :: turnsL I.ps.length (upd rest p (rest p).tail) ts' := by
        conv => lhs; unfold turnsL
        rw [if_pos h]; rfl
      rw [eL] at hres ⊢
      refine (turn_recv I cs (Stop := StopT (mcfg I S b B) (AnchM I cs res) ((p, (rest p).head?) :: turnsL I.ps.length (upd rest p (rest p).tail) ts')) hI (by omega) i p hp ht' (fun j2 j3 j4 j8 j9 j11 j12 j13 j14 j15 j16 j17 j18 j19 j20 j21 j22 j23 j24 j25 j26 j27 j28 j29 j30 j31 j32 j33 j34 j35 j36 j37 j38 j39 j40 j44 j45 j46 j47 j48 j49 j50 j51 j52 j53 j54 j55 j56 j57 j58 j60 j61 j62 j63 j64 j65 j66 j67 j68 j69 j70 j71 w hF => recvM_at I cs i p out (found (rest p).head?) j2 j3 j4 j8 j9 j11 j12 j13 j14 j15 j16 j17 j18 j19 j20 j21 j22 j23 j24 j25 j26 j27 j28 j29 j30 j31 j32 j33 j34 j35 j36 j37 j38 j39 j40 j44 j45 j46 j47 j48 j49 j50 j51 j52 j53 j54 j55 j56 j57 j58 j60 j61 j62 j63 j64 j65 j66 j67 j68 j69 j70 j71 w fun w₂ r => (turnsM_iff _ _ _).2 ?_) j2 j3 j4 j8 j9 j11 j12 j13 j14 j15 j16 j17 j18 j19 j20 j21 j22 j23 j24 j25 j26 j27 j28 j29 j30 j31 j32 j33 j34 j35 j36 j37 j38 j39 j40 j44 j45 j46 j47 j48 j49 j50 j51 j52 j53 j54 j55 j56 j57 j58 j59 j60 j61 j62 j63 j64 j65 j66 j67 j68 j69 j70 j71 w hF).mono (by simp only [List.length_cons]; omega)
      cases hh : (rest p).head? with
      | none =>
        rw [hh] at hres
        exact ⟨_, got_none I cs hI (100 * (ts'.length + 1)) i hlt (fun j2 j3 j4 j8 j9 j11 j12 j13 j14 j15 j16 j17 j18 j19 j20 j21 j22 j23 j24 j25 j26 j27 j28 j29 j30 j31 j32 j33 j34 j35 j36 j37 j38 j39 j40 j44 j45 j46 j47 j48 j49 j50 j51 j52 j53 j54 j55 j56 j57 j58 j59 j60 j61 j62 j63 j64 j65 j66 j67 j68 j69 j70 j71 w hF => turns_at hI hB res ts' (i + 1) _ xs out hd' hl' (by omega) (by simpa [gets] using hres) _ _ _ _ _ _ _ _ _ _ _ _ _ _ _ _ _ _ _ _ _ _ _ _ _ _ _ _ _ _ _ _ _ _ _ _ _ _ _ _ _ _ _ _ _ _ _ _ _ _ _ _ _ _ _ _ _ _ _ _ _ _ _ w hF) _ _ _ _ _ _ _ _ _ _ _ _ _ _ _ _ _ _ _ _ _ _ _ _ _ _ _ _ _ _ _ _ _ _ _ _ _ _ _ _ _ _ _ _ _ _ _ _ _ _ _ _ _ _ _ _ _ _ _ _ _ _ w₂ (hF.rely r)⟩
      | some v =>
        rw [hh] at hres
        exact ⟨_, got_some I cs hI hB (100 * (ts'.length + 1)) i hlt v hx (fun out j2 j3 j4 j8 j9 j11 j12 j13 j14 j15 j16 j17 j18 j19 j20 j21 j22 j23 j24 j25 j26 j27 j28 j29 j30 j31 j32 j33 j34 j35 j36 j37 j38 j39 j40 j44 j45 j46 j47 j48 j49 j50 j51 j52 j53 j54 j55 j56 j57 j58 j59 j60 j61 j62 j63 j64 j65 j66 j67 j68 j69 j70 j71 w hF => turns_at hI hB res ts' (i + 1) _ (xs ++ [v]) out hd' hl' (by simp; omega) (by simpa [gets] using hres) _ _ _ _ _ _ _ _ _ _ _ _ _ _ _ _ _ _ _ _ _ _ _ _ _ _ _ _ _ _ _ _ _ _ _ _ _ _ _ _ _ _ _ _ _ _ _ _ _ _ _ _ _ _ _ _ _ _ _ _ _ _ _ w hF) _ _ _ _ _ _ _ _ _ _ _ _ _ _ _ _ _ _ _ _ _ _ _ _ _ _ _ _ _ _ _ _ _ _ _ _ _ _ _ _ _ _ _ _ _ _ _ _ _ _ _ _ _ _ _ _ _ _ _ _ _ _ w₂ (hF.rely r)⟩
    · have eL : turnsL I.ps.length rest (t :: ts') = turnsL I.ps.length rest ts' := by
        conv => lhs; unfold turnsL
        rw [if_neg h]
      rw [eL] at hres ⊢
      by_cases hneg : t < 0
      · exact (turn_neg I cs hI (by omega) (100 * (ts'.length + 1)) i t ht' (fun j2 j3 j4 j8 j9 j11 j12 j13 j14 j15 j16 j17 j18 j19 j20 j21 j22 j23 j24 j25 j26 j27 j28 j29 j30 j31 j32 j33 j34 j35 j36 j37 j38 j39 j40 j44 j45 j46 j47 j48 j49 j50 j51 j52 j53 j54 j55 j56 j57 j58 j59 j60 j61 j62 j63 j64 j65 j66 j67 j68 j69 j70 j71 w hF => turns_at hI hB res ts' (i + 1) rest xs out hd' hl' (by omega) hres _ _ _ _ _ _ _ _ _ _ _ _ _ _ _ _ _ _ _ _ _ _ _ _ _ _ _ _ _ _ _ _ _ _ _ _ _ _ _ _ _ _ _ _ _ _ _ _ _ _ _ _ _ _ _ _ _ _ _ _ _ _ _ w hF) hneg j2 j3 j4 j8 j9 j11 j12 j13 j14 j15 j16 j17 j18 j19 j20 j21 j22 j23 j24 j25 j26 j27 j28 j29 j30 j31 j32 j33 j34 j35 j36 j37 j38 j39 j40 j44 j45 j46 j47 j48 j49 j50 j51 j52 j53 j54 j55 j56 j57 j58 j59 j60 j61 j62 j63 j64 j65 j66 j67 j68 j69 j70 j71 w hF).mono en
      · exact (turn_big I cs hI (by omega) (100 * (ts'.length + 1)) i t ht' (fun j2 j3 j4 j8 j9 j11 j12 j13 j14 j15 j16 j17 j18 j19 j20 j21 j22 j23 j24 j25 j26 j27 j28 j29 j30 j31 j32 j33 j34 j35 j36 j37 j38 j39 j40 j44 j45 j46 j47 j48 j49 j50 j51 j52 j53 j54 j55 j56 j57 j58 j59 j60 j61 j62 j63 j64 j65 j66 j67 j68 j69 j70 j71 w hF => turns_at hI hB res ts' (i + 1) rest xs out hd' hl' (by omega) hres _ _ _ _ _ _ _ _ _ _ _ _ _ _ _ _ _ _ _ _ _ _ _ _ _ _ _ _ _ _ _ _ _ _ _ _ _ _ _ _ _ _ _ _ _ _ _ _ _ _ _ _ _ _ _ _ _ _ _ _ _ _ _ w hF) hneg (by omega) j2 j3 j4 j8 j9 j11 j12 j13 j14 j15 j16 j17 j18 j19 j20 j21 j22 j23 j24 j25 j26 j27 j28 j29 j30 j31 j32 j33 j34 j35 j36 j37 j38 j39 j40 j44 j45 j46 j47 j48 j49 j50 j51 j52 j53 j54 j55 j56 j57 j58 j59 j60 j61 j62 j63 j64 j65 j66 j67 j68 j69 j70 j71 w hF).mono en

/-- From the loop's head: all. -/
theorem merge_starts (hI : I.Ok S) (hB : I.N + 6 + I.ps.length + 2 * I.ts.length ≤ B) (h64 : I.ps.length ≤ 64) (j2 j3 j4 j8 j9 j10 j11 j12 j13 j14 j15 j16 j17 j18 j19 j20 j21 j25 j26 j27 j28 j29 j30 j31 j32 j33 j34 j35 j36 j37 j38 j39 j40 j41 j42 j43 j44 j45 j46 j47 j48 j49 j50 j51 j52 j53 j54 j55 j56 j57 j58 j59 j60 j61 j62 j63 j64 j65 j66 j67 j68 j69 j70 j71 : Value) (w : World) (hF : A0 I 0 w) :
    StartsM (mcfg I S b B) (TurnsM (mcfg I S b B) (AnchM I cs (mergeR I.ps I.ts)) (turnsL I.ps.length (fun p => I.ps.getD p []) I.ts)) (mcfg I S b B).T (gHeadA I cs 0 j2 j3 j4 j8 j9 j10 j11 j12 j13 j14 j15 j16 j17 j18 j19 j20 j21 j25 j26 j27 j28 j29 j30 j31 j32 j33 j34 j35 j36 j37 j38 j39 j40 j41 j42 j43 j44 j45 j46 j47 j48 j49 j50 j51 j52 j53 j54 j55 j56 j57 j58 j59 j60 j61 j62 j63 j64 j65 j66 j67 j68 j69 j70 j71) w := by
  have hres : [] ++ gets (turnsL I.ps.length (fun p => I.ps.getD p []) I.ts) = mergeR I.ps I.ts := mergeR_turns I.ps I.ts h64
  have hN : ∀ (j2 j3 j4 j8 j9 j10 j11 j12 j13 j14 j15 j16 j17 j18 j19 j20 j21 j25 j26 j27 j28 j29 j30 j31 j32 j33 j34 j35 j36 j37 j38 j39 j40 j41 j42 j43 j44 j45 j46 j47 j48 j49 j50 j51 j52 j53 j54 j55 j56 j57 j58 j59 j60 j61 j62 j63 j64 j65 j66 j67 j68 j69 j70 j71 : Value) w, A0 I I.ps.length w → Goes Try.prog true (AsideM (mcfg I S b B) I.ps.length) (D0 (mcfg I S b B) I.ps.length) (StopT (mcfg I S b B) (AnchM I cs (mergeR I.ps I.ts)) (turnsL I.ps.length (fun p => I.ps.getD p []) I.ts)) (100 * (I.ts.length + 1) + 40) (gHeadA I cs I.ps.length j2 j3 j4 j8 j9 j10 j11 j12 j13 j14 j15 j16 j17 j18 j19 j20 j21 j25 j26 j27 j28 j29 j30 j31 j32 j33 j34 j35 j36 j37 j38 j39 j40 j41 j42 j43 j44 j45 j46 j47 j48 j49 j50 j51 j52 j53 j54 j55 j56 j57 j58 j59 j60 j61 j62 j63 j64 j65 j66 j67 j68 j69 j70 j71) w :=
    fun j2 j3 j4 j8 j9 j10 j11 j12 j13 j14 j15 j16 j17 j18 j19 j20 j21 j25 j26 j27 j28 j29 j30 j31 j32 j33 j34 j35 j36 j37 j38 j39 j40 j41 j42 j43 j44 j45 j46 j47 j48 j49 j50 j51 j52 j53 j54 j55 j56 j57 j58 j59 j60 j61 j62 j63 j64 j65 j66 j67 j68 j69 j70 j71 w hF => headA_end I cs _ (fun j2 j3 j4 j8 j9 j11 j12 j13 j14 j15 j16 j17 j18 j19 j20 j21 j22 j23 j24 j25 j26 j27 j28 j29 j30 j31 j32 j33 j34 j35 j36 j37 j38 j39 j40 j44 j45 j46 j47 j48 j49 j50 j51 j52 j53 j54 j55 j56 j57 j58 j59 j60 j61 j62 j63 j64 j65 j66 j67 j68 j69 j70 j71 w hF => turns_at I cs hI hB _ I.ts 0 _ [] _ rfl (by omega) (Nat.le_refl _) hres _ _ _ _ _ _ _ _ _ _ _ _ _ _ _ _ _ _ _ _ _ _ _ _ _ _ _ _ _ _ _ _ _ _ _ _ _ _ _ _ _ _ _ _ _ _ _ _ _ _ _ _ _ _ _ _ _ _ _ _ _ _ _ w hF) _ _ _ _ _ _ _ _ _ _ _ _ _ _ _ _ _ _ _ _ _ _ _ _ _ _ _ _ _ _ _ _ _ _ _ _ _ _ _ _ _ _ _ _ _ _ _ _ _ _ _ _ _ _ _ _ _ _ _ _ _ _ _ _ w hF
  show StartsM (mcfg I S b B) _ I.ps.length _ w
  cases hT : I.ps.length with
  | zero =>
    have h0 : A0 I I.ps.length w := by rw [hT]; exact hF
    have h1 := hN j2 j3 j4 j8 j9 j10 j11 j12 j13 j14 j15 j16 j17 j18 j19 j20 j21 j25 j26 j27 j28 j29 j30 j31 j32 j33 j34 j35 j36 j37 j38 j39 j40 j41 j42 j43 j44 j45 j46 j47 j48 j49 j50 j51 j52 j53 j54 j55 j56 j57 j58 j59 j60 j61 j62 j63 j64 j65 j66 j67 j68 j69 j70 j71 w h0
    rw [hT] at h1
    refine (turnsM_iff _ (gHeadA I cs 0 j2 j3 j4 j8 j9 j10 j11 j12 j13 j14 j15 j16 j17 j18 j19 j20 j21 j25 j26 j27 j28 j29 j30 j31 j32 j33 j34 j35 j36 j37 j38 j39 j40 j41 j42 j43 j44 j45 j46 j47 j48 j49 j50 j51 j52 j53 j54 j55 j56 j57 j58 j59 j60 j61 j62 j63 j64 j65 j66 j67 j68 j69 j70 j71) w).2 ⟨100 * (I.ts.length + 1) + 40, ?_⟩
    show Goes Try.prog true (AsideM (mcfg I S b B) I.ps.length) (D0 (mcfg I S b B) I.ps.length) _ _ _ w
    rw [hT]
    exact h1
  | succ k =>
    have e3 : (mcfg I S b B).T - (k + 1) = 0 := by show I.ps.length - (k + 1) = 0; omega
    show GP (mcfg I S b B) ((mcfg I S b B).T - (k + 1)) (At0Mark (mcfg I S b B) .disable (GP (mcfg I S b B) ((mcfg I S b B).T - (k + 1)) (AtAddM (mcfg I S b B) ((mcfg I S b B).T - (k + 1)) (StartsM (mcfg I S b B) _ k)))) _ w
    rw [e3, ← hT]
    exact ⟨120, starts_at I cs hI (by omega) h64 hN (fun n g w h => (turnsM_iff _ g w).2 ⟨n, h⟩) k 0 (by omega) j2 j3 j4 j8 j9 j10 j11 j12 j13 j14 j15 j16 j17 j18 j19 j20 j21 j25 j26 j27 j28 j29 j30 j31 j32 j33 j34 j35 j36 j37 j38 j39 j40 j41 j42 j43 j44 j45 j46 j47 j48 j49 j50 j51 j52 j53 j54 j55 j56 j57 j58 j59 j60 j61 j62 j63 j64 j65 j66 j67 j68 j69 j70 j71 w hF⟩

/-! ### the call -/
theorem info33 : (Try.prog.info? 33).map (fun i => (i.zero, i.size, i.bytes)) = some (some (.chan none), 1, 8) := by kernel_rfl
theorem bytes38 : ∃ i, Try.prog.info? 38 = some i ∧ i.bytes = 0 := by
  have h : (Try.prog.info? 38).map (·.bytes) = some 0 := by kernel_rfl
  obtain ⟨i, hi, hb⟩ := Option.map_eq_some_iff.1 h
  exact ⟨i, hi, hb⟩
theorem mk48 (w : World) : (Instr.makeChan 48 (.int .i64 0)).run Try.prog w = .ok (.chan (some w.heap.size)) (w.alloc (.chan 0 #[] false 0 0 false)) := by
  obtain ⟨i, hi, hb⟩ := bytes38
  simpa using run_makeChan (P := Try.prog) (w := w) Try.underlying48 hi .i64 0 (by omega) (by rw [hb]; omega)
theorem mk48e (w : World) (es : Array Event) : (Instr.makeChan 48 (.int .i64 0)).events Try.prog w es = es := by
  obtain ⟨i, hi, hb⟩ := bytes38
  simpa using events_makeChan (P := Try.prog) (w := w) Try.underlying48 hi .i64 0 (by omega) (by rw [hb]; omega) es
theorem ms49 (n : Nat) (hn : n ≤ 64) : ∃ arr : Array Value, arr.size = n ∧ (∀ w : World, (Instr.makeSlice 49 (.int .i64 (n : Int)) (.int .i64 (n : Int))).run Try.prog w = .ok (.slice (some ⟨w.heap.size, 0, none⟩) n n) (w.alloc (.cells arr 33))) ∧ ∀ (w : World) es, (Instr.makeSlice 49 (.int .i64 (n : Int)) (.int .i64 (n : Int))).events Try.prog w es = es := by
  obtain ⟨i, hi, hz, hs, hby⟩ := info_parts info33
  refine ⟨madeCells (Value.chan none).cells (n * 1), by rw [size_madeCells, Nat.mul_one], fun w => ?_, fun w es => ?_⟩
  · have := run_make (P := Try.prog) w 49 33 i (.chan none) Try.underlying49 hi hz .i64 .i64 n n (by omega) (Int.le_refl _) (by rw [hby]; omega) (by omega)
    rw [hs] at this
    simpa using this
  · exact events_make (P := Try.prog) w 49 33 i (.chan none) Try.underlying49 hi hz .i64 .i64 n n (by omega) (Int.le_refl _) (by rw [hby]; omega) (by omega) (by rw [hby]; simp; omega) es

def w14 (arr : Array Value) : World := ((I.W.alloc (.cells #[.int .u64 0, .int .u32 0] 47)).alloc (.chan 0 #[] false 0 0 false)).alloc (.cells arr 33)

theorem merge_begins {X : (Loc → Prop) → Goroutine → World → Prop} (hI : I.Ok S) (h64 : I.ps.length ≤ 64)
    (h : ∀ j2 j3 j4 j8 j9 j10 j11 j12 j13 j14 j15 j16 j17 j18 j19 j20 j21 j25 j26 j27 j28 j29 j30 j31 j32 j33 j34 j35 j36 j37 j38 j39 j40 j41 j42 j43 j44 j45 j46 j47 j48 j49 j50 j51 j52 j53 j54 j55 j56 j57 j58 j59 j60 j61 j62 j63 j64 j65 j66 j67 j68 j69 j70 j71 arr d, arr.size = I.ps.length → Reach Try.prog S (gHeadA I cs 0 j2 j3 j4 j8 j9 j10 j11 j12 j13 j14 j15 j16 j17 j18 j19 j20 j21 j25 j26 j27 j28 j29 j30 j31 j32 j33 j34 j35 j36 j37 j38 j39 j40 j41 j42 j43 j44 j45 j46 j47 j48 j49 j50 j51 j52 j53 j54 j55 j56 j57 j58 j59 j60 j61 j62 j63 j64 j65 j66 j67 j68 j69 j70 j71) ((w14 I arr).at d) X) :
    Reach Try.prog S (G ((base 14).at { tmps := #[.slice I.a0 I.ps.length I.cap, .slice I.b0 I.ts.length I.capb] ++ Array.replicate (Try.f14.ntmps - 2) undef, defers := [] } [.code body14]) cs) I.W X := by
  have hmc := mk48
  have hme := mk48e
  obtain ⟨arr, harr, hms, hmse⟩ := ms49 I.ps.length h64
  have H := Lib.hid (fun j2 j3 j4 j8 j9 j10 j11 j12 j13 j14 j15 j16 j17 j18 j19 j20 j21 j25 j26 j27 j28 j29 j30 j31 j32 j33 j34 j35 j36 j37 j38 j39 j40 j41 j42 j43 j44 j45 j46 j47 j48 j49 j50 j51 j52 j53 j54 j55 j56 j57 j58 j59 j60 j61 j62 j63 j64 j65 j66 j67 j68 j69 j70 j71 d => h j2 j3 j4 j8 j9 j10 j11 j12 j13 j14 j15 j16 j17 j18 j19 j20 j21 j25 j26 j27 j28 j29 j30 j31 j32 j33 j34 j35 j36 j37 j38 j39 j40 j41 j42 j43 j44 j45 j46 j47 j48 j49 j50 j51 j52 j53 j54 j55 j56 j57 j58 j59 j60 j61 j62 j63 j64 j65 j66 j67 j68 j69 j70 j71 arr d harr)
  clear h harr
  have h64' : ¬ (64 < I.ps.length) := by omega
  simp only [gHeadA, rest14r, post14b, in14b, ops14r, ops14c, ops14w, La14, Lb14, tail14, body14, Try.f14, Option.getD_some, num, Nat.reduceSub, Array.replicate_succ, Array.replicate_zero, List.push_toArray, List.append_toArray, List.nil_append, List.cons_append] at H ⊢
  repeat (first
    | refine r_end ?_ | refine r_seq ?_ | refine r_skip ?_ | refine r_block ?_ | (refine r_region ?_; simp only [List.size_toArray, List.length_cons, List.length_nil, Nat.reduceAdd, Nat.zero_add, List.range, List.range.loop])
    | (refine r_op rfl rfl (by decide) (fun w₁ h₁ K hK => ?_); obtain ⟨dd, hdd⟩ := h₁; subst hdd; (try simp only [at_at', alloc_at', setCell_at']); go_simp
       refine hK _ _ ⟨fun e he => ?_, ?_⟩
       · have hm := mem_listed he; clear hK he; simp [go_sem, storedEv, *] at hm
       clear hK K; try walk_nrm)
    | (refine r_cond (t := false) (by simp [Act.eval, *] <;> omega) ?_; simp only [if_true, if_false, Bool.false_eq_true, ↓reduceIte]))
  refine r_loop ?_
  exact H.out _ _ _ _ _ _ _ _ _ _ _ _ _ _ _ _ _ _ _ _ _ _ _ _ _ _ _ _ _ _ _ _ _ _ _ _ _ _ _ _ _ _ _ _ _ _ _ _ _ _ _ _ _ _ _ _ _ _ _ _ _ _ _ _ _

/-- Behind Wait: to the return. -/
theorem merge_ends {S' : Loc → Prop} {X : (Loc → Prop) → Goroutine → World → Prop} (out : Value) (j2 j3 j4 j8 j9 j11 j12 j13 j14 j15 j16 j17 j18 j19 j20 j21 j22 j23 j24 j25 j26 j27 j28 j29 j30 j31 j32 j33 j34 j35 j36 j37 j38 j39 j40 j41 j42 j43 j44 j45 j46 j47 j48 j49 j50 j51 j52 j53 j54 j55 j56 j57 j58 j59 j60 j61 j62 j63 j64 j65 j66 j67 j68 j69 j70 j71 : Value) (w : World) (h : ∀ T todo d, (∀ fn : Func, fn.results = #[.tmp 4] → ResultsC Try.prog fn T out) → Reach Try.prog S' (G { (base 14).at ⟨T, []⟩ todo with mode := .returning } cs) (w.at d) X) :
    Reach Try.prog S' (G ((base 14).at ((⟨#[.slice I.a0 I.ps.length I.cap, .slice I.b0 I.ts.length I.capb, j2, j3, j4, .pointer (some ⟨I.N, 0, none⟩), .chan (some (I.N + 1)), .slice (some ⟨I.N + 2, 0, none⟩) I.ps.length I.ps.length, j8, j9, out, j11, j12, j13, j14, j15, j16, j17, j18, j19, j20, j21, j22, j23, j24, j25, j26, j27, j28, j29, j30, j31, j32, j33, j34, j35, j36, j37, j38, j39, j40, j41, j42, j43, j44, j45, j46, j47, j48, j49, j50, j51, j52, j53, j54, j55, j56, j57, j58, j59, j60, j61, j62, j63, j64, j65, j66, j67, j68, j69, j70, j71], []⟩ : Act).put ((ops14w[0]?).bind (·.dst)) (.tuple #[])) (.inRegion ops14w [] :: [.code (tail14 10)])) cs) w X := by
  simp only [rest14r, post14b, in14b, ops14r, ops14c, ops14w, La14, Lb14, tail14, body14, Try.f14, Option.getD_some, num] at h ⊢
  have H := Lib.hid @h
  clear h
  walk_nrm
  repeat (first
    | refine r_end ?_ | refine r_seq ?_ | refine r_skip ?_ | refine r_block ?_ | (refine r_region ?_; simp only [List.size_toArray, List.length_cons, List.length_nil, Nat.reduceAdd, Nat.zero_add, List.range, List.range.loop])
    | (refine r_op rfl rfl (by decide) (fun w₁ h₁ K hK => ?_); obtain ⟨dd, hdd⟩ := h₁; subst hdd; (try simp only [at_at', alloc_at', setCell_at']); go_simp
       refine hK _ _ ⟨fun e he => ?_, ?_⟩
       · have hm := mem_listed he; clear hK he; simp [go_sem, storedEv, *] at hm
       clear hK K; try walk_nrm)
    | (refine r_cond (t := false) (by simp [Act.eval, *] <;> omega) ?_; simp only [if_true, if_false, Bool.false_eq_true, ↓reduceIte]))
  refine r_ret ?_
  exact H.out _ _ _ fun fn hf => resultsC_tmp hf _

def MergePost (I : MIn) (S S' : Loc → Prop) (v : Value) (w' : World) : Prop := (∀ l, S' l → S l ∨ (ShN I.N l ∧ I.N < w'.heap.size)) ∧ w'.ownsRow (I.N + 1) 3 1 v (mergeR I.ps I.ts).length ((mergeR I.ps I.ts).map num) ∧ Below I.N I.W w'

theorem merge_many (h64 : 64 < I.ps.length) : Reach Try.prog S (G ((base 14).at { tmps := #[.slice I.a0 I.ps.length I.cap, .slice I.b0 I.ts.length I.capb] ++ Array.replicate (Try.f14.ntmps - 2) undef, defers := [] } [.code body14]) cs) I.W
    fun S' g w' => ∃ a' todo v, g = G { (base 14).at a' todo with mode := .returning } cs ∧ a'.defers = [] ∧ ResultsC Try.prog Try.f14 a'.tmps v ∧ MergePost I S S' v w' := by
  have H : ∀ T todo d, (∀ fn : Func, fn.results = #[.tmp 4] → ResultsC Try.prog fn T (.slice none 0 0)) → Reach Try.prog S (G { (base 14).at ⟨T, []⟩ todo with mode := .returning } cs) (I.W.at d) fun S' g w' => ∃ a' todo v, g = G { (base 14).at a' todo with mode := .returning } cs ∧ a'.defers = [] ∧ ResultsC Try.prog Try.f14 a'.tmps v ∧ MergePost I S S' v w' := fun T todo d hr => by
    have e : mergeR I.ps I.ts = [] := if_pos h64
    refine .here ⟨⟨T, []⟩, todo, _, rfl, rfl, hr _ rfl, fun l h => .inl h, ?_, ⟨rfl, rfl, rfl, Nat.le_refl _, fun _ _ => rfl⟩⟩
    rw [e]
    exact World.ownsRow_nil _ _ _ _
  generalize (fun S' g w' => ∃ a' todo v, g = G { (base 14).at a' todo with mode := .returning } cs ∧ a'.defers = [] ∧ ResultsC Try.prog Try.f14 a'.tmps v ∧ MergePost I S S' v w') = X at H ⊢
  have H := Lib.hid H
  simp only [rest14r, post14b, in14b, ops14r, ops14c, ops14w, La14, Lb14, tail14, body14, Try.f14, Option.getD_some, num, Nat.reduceSub, Array.replicate_succ, Array.replicate_zero, List.push_toArray, List.append_toArray, List.nil_append, List.cons_append]
  repeat (first
    | refine r_end ?_ | refine r_seq ?_ | refine r_skip ?_ | refine r_block ?_ | (refine r_region ?_; simp only [List.size_toArray, List.length_cons, List.length_nil, Nat.reduceAdd, Nat.zero_add, List.range, List.range.loop])
    | (refine r_op rfl rfl (by decide) (fun w₁ h₁ K hK => ?_); obtain ⟨dd, hdd⟩ := h₁; subst hdd; (try simp only [at_at', alloc_at', setCell_at']); go_simp
       refine hK _ _ ⟨fun e he => ?_, ?_⟩
       · have hm := mem_listed he; clear hK he; simp [go_sem, storedEv, *] at hm
       clear hK K; try walk_nrm)
    | (refine r_cond (t := true) (by simp [Act.eval, *] <;> omega) ?_; simp only [if_true, if_false, Bool.false_eq_true, ↓reduceIte]))
  refine r_ret ?_
  exact H.out _ _ _ fun fn hf => resultsC_tmp hf _

theorem w14_km (arr : Array Value) (d : Nat) : KM I ((w14 I arr).at d) := by
  have h1 : (w14 I arr).heap[I.N]? = some (.cells #[.int .u64 0, .int .u32 0] 47) := by
    unfold w14
    rw [heap_alloc_old _ _ _ (by have : I.N = I.W.heap.size := rfl; simp; omega), heap_alloc_old _ _ _ (by have : I.N = I.W.heap.size := rfl; simp)]
    exact heap_alloc_new _ _
  refine ⟨?_, 0, 0, h1⟩
  have h2 : Below I.N I.W (w14 I arr) := (((Below.refl _ I.W).alloc (Nat.le_refl _) _).alloc (by simp) _).alloc (by simp; omega) _
  exact ⟨h2.os, h2.tape, h2.output, h2.size, h2.block⟩
theorem w14_wg (arr : Array Value) (d : Nat) : WgAt 47 I.N ((w14 I arr).at d) 0 0 := by
  show (w14 I arr).heap[I.N]? = _
  unfold w14
  rw [heap_alloc_old _ _ _ (by have : I.N = I.W.heap.size := rfl; simp; omega), heap_alloc_old _ _ _ (by have : I.N = I.W.heap.size := rfl; simp)]
  exact heap_alloc_new _ _
theorem w14_halt (arr : Array Value) (d : Nat) : ((w14 I arr).at d).heap[I.N + 1]? = some (.chan 0 #[] false 0 0 false) := by
  show (w14 I arr).heap[I.N + 1]? = _
  unfold w14
  rw [heap_alloc_old _ _ _ (by simp)]
  have := heap_alloc_new (I.W.alloc (.cells #[.int .u64 0, .int .u32 0] 47)) (.chan 0 #[] false 0 0 false)
  simpa only [World.size_alloc] using this
theorem w14_a0 (arr : Array Value) (ha : arr.size = I.ps.length) (d : Nat) : A0 I 0 ((w14 I arr).at d) := by
  refine ⟨w14_km I arr d, by show (w14 I arr).heap.size = _; simp [w14], arr, ?_, ha, fun p hp => absurd hp (Nat.not_lt_zero p)⟩
  show (w14 I arr).heap[I.N + 2]? = _
  unfold w14
  have := heap_alloc_new ((I.W.alloc (.cells #[.int .u64 0, .int .u32 0] 47)).alloc (.chan 0 #[] false 0 0 false)) (.cells arr 33)
  simpa only [World.size_alloc] using this

/-- THE CALL. -/
theorem merge_calls (hI : I.Ok S) : CallsR Try.prog S 14 #[.slice I.a0 I.ps.length I.cap, .slice I.b0 I.ts.length I.capb] I.W (MergePost I S) := by
  refine CallsR.enter Try.func14 (by rfl) rfl fun cs => ?_
  by_cases h64 : 64 < I.ps.length
  · exact merge_many I cs h64
  have hl : I.ps.length ≤ 64 := by omega
  refine merge_begins I cs hI hl fun j2 j3 j4 j8 j9 j10 j11 j12 j13 j14 j15 j16 j17 j18 j19 j20 j21 j25 j26 j27 j28 j29 j30 j31 j32 j33 j34 j35 j36 j37 j38 j39 j40 j41 j42 j43 j44 j45 j46 j47 j48 j49 j50 j51 j52 j53 j54 j55 j56 j57 j58 j59 j60 j61 j62 j63 j64 j65 j66 j67 j68 j69 j70 j71 arr d harr => ?_
  refine Reach.merge (mcfg I S) (I.N + 6 + I.ps.length + 2 * I.ts.length) (fun _ _ => AnchM I cs (mergeR I.ps I.ts)) (FinM I cs (mergeR I.ps I.ts)) (turnsL I.ps.length (fun p => I.ps.getD p []) I.ts) I.N (fun _ _ => rfl) (fun _ _ => rfl) (fun _ _ => rfl) (fun _ _ => rfl) (fun _ _ => rfl)
    (fun b B hb hB => mcfg_fine hI hb (by omega) hl ⟨20, fun g w h => anch_waits I cs hI (by omega) _ g w h⟩) (fun l hs hw => ?_) (fun b B d' => w14_km I arr d') (fun b B d' => ⟨0, 0, w14_halt I arr d'⟩) (fun b B d' => w14_wg I arr d') (fun b B => agrees_turns _ _ _)
    (fun b B d' _ hB => merge_starts I cs hI hB hl _ _ _ _ _ _ _ _ _ _ _ _ _ _ _ _ _ _ _ _ _ _ _ _ _ _ _ _ _ _ _ _ _ _ _ _ _ _ _ _ _ _ _ _ _ _ _ _ _ _ _ _ _ _ _ _ _ _ _ _ _ _ _ _ _ (w14_a0 I arr harr d')) ?_
  · obtain ⟨x, rfl, hx⟩ := hw
    have : x.block < I.N := hI.new _ hs
    omega
  rintro a' w' ⟨out, j2, j3, j4, j8, j9, j11, j12, j13, j14, j15, j16, j17, j18, j19, j20, j21, j22, j23, j24, j25, j26, j27, j28, j29, j30, j31, j32, j33, j34, j35, j36, j37, j38, j39, j40, j41, j42, j43, j44, j45, j46, j47, j48, j49, j50, j51, j52, j53, j54, j55, j56, j57, j58, j59, j60, j61, j62, j63, j64, j65, j66, j67, j68, j69, j70, j71, hF, hback⟩
  refine hback _ _ (merge_ends I cs out j2 j3 j4 j8 j9 j11 j12 j13 j14 j15 j16 j17 j18 j19 j20 j21 j22 j23 j24 j25 j26 j27 j28 j29 j30 j31 j32 j33 j34 j35 j36 j37 j38 j39 j40 j41 j42 j43 j44 j45 j46 j47 j48 j49 j50 j51 j52 j53 j54 j55 j56 j57 j58 j59 j60 j61 j62 j63 j64 j65 j66 j67 j68 j69 j70 j71 w' fun T todo d hr => .here ⟨⟨T, []⟩, todo, out, rfl, rfl, hr _ rfl, fun l h => h.imp id fun h => ⟨h, by have := hF.size; show I.N < w'.heap.size; omega⟩, ?_, ?_⟩)
  · refine ⟨hF.own.1, hF.own.2.imp id ?_⟩
    rintro ⟨g, cap, cur, e, hg, x⟩
    exact ⟨g, cap, cur, e, by omega, x⟩
  · exact ⟨hF.km.low.os, hF.km.low.tape, hF.km.low.output, hF.km.low.size, hF.km.low.block⟩
#print axioms merge_calls
end
end Go.Proofs.Ytdpagejckahkkaa.Net
