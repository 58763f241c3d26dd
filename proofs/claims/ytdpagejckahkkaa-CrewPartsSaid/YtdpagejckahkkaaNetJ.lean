/- The chain's theorem as one coming of goroutine 0's; and what crew.Relay's chain is made of. -/
import Derived.Test.YtdpagejckahkkaaFeed
import Derived.Laws.NewBlocks
import Derived.Below
namespace Go.Proofs.Ytdpagejckahkkaa.Net
open Go Go.Conc Go.RowKit
open Go.ConcN (sumTo)

theorem Reach.chain {P : Program} {S : Loc → Prop} {a : Goroutine} {w : World} {X : (Loc → Prop) → Goroutine → World → Prop} (C : Nat → Nat → Cfg) (B₀ : Nat) (Fin : Goroutine → World → Prop)
    (hP : ∀ b B, (C b B).P = P) (hS : ∀ b B, (C b B).Shun = S) (hb : ∀ b B, (C b B).b0 = b) (hB : ∀ b B, (C b B).B = B) (F : ∀ b B, 0 < b → B₀ ≤ B → (C b B).Fine)
    (hsm : ∀ b B l, (C b B).Still l → l.isMemory = true) (hss : ∀ b B l, (C b B).Still l → ¬ S l)
    (hsp : ∀ b B d, 0 < b → B₀ ≤ B → Spawns (C b B) (Eats (C b B) Fin (full (C b B).a (C b B).vs ((C b B).T - 1))) (C b B).T a (w.at d)) (hfin : ∀ a' w', Fin a' w' → Reach P S a' w' X) : Reach P S a w X := by
  rintro M t ⟨m, gs, sl, q, B, d, rfl, h0, hL, hPast, _⟩
  have hpos : 0 < gs.size := (Array.getElem?_eq_some_iff.1 h0).1
  have hle : B₀ ≤ max B B₀ := Nat.le_max_right _ _
  have := Go.Proofs.Ytdpagejckahkkaa.Net.chain (F gs.size (max B B₀) hpos hle) (hsm _ _) (by rw [hS]; exact hss _ _) (sl := sl) (t := t) (q := q) (gs := gs) (by rw [hb]) h0 (by rw [hP]; exact hL) (by rw [hS, hB]; exact hPast.mono (Nat.le_max_left _ _)) (hsp gs.size (max B B₀) d hpos hle)
  obtain ⟨N, gs', a', w', sl', t', q', h1, _, h2, h3, h4, h5⟩ := this
  rw [hP] at h1 h4
  rw [hS, hB] at h5
  obtain ⟨N', M'', t'', S'', a'', w'', h6, h7, h8⟩ := hfin a' w' h3 _ t' ⟨_, gs', sl', q', _, w'.drawn, rfl, h2, h4, h5, rfl⟩
  exact ⟨N + N', M'', t'', S'', a'', w'', runNT_then h1 h6, h7, h8⟩

/-! ### crew.Relay's chain -/

/-- Where the channels lie: N: the heap's size at the call. -/
def cN (N p : Nat) : Nat := if p = 0 then N + 1 else N + 2 + p
theorem cN_zero (N : Nat) : cN N 0 = N + 1 := rfl
theorem cN_succ (N p : Nat) : cN N (p + 1) = N + 3 + p := by simp [cN]; omega

/-- What whoever takes part leans on. -/
structure KR (W : World) (N : Nat) (a0 : Option Addr) (len cap : Nat) (w : World) : Prop where
  low : Below N W w
  box : w.cell? ⟨N, 0, none⟩ = some (.slice a0 len cap)
  fst : w.cell? ⟨N + 2, 0, none⟩ = some (.chan (some (N + 1)))

theorem KR.aside {W : World} {N : Nat} {a0 : Option Addr} {len cap m : Nat} {w w₁ : World} (h : KR W N a0 len cap w) (r : AsideN (cN N) m w w₁) : KR W N a0 len cap w₁ := by
  have hb : ∀ k, (k < N ∨ k = N ∨ k = N + 2) → w₁.heap[k]? = w.heap[k]? := fun k hk => r.block k fun p _ => by unfold cN; split <;> omega
  exact ⟨⟨r.os.trans h.low.os, r.tape.trans h.low.tape, r.output.trans h.low.output, by rw [r.size]; exact h.low.size, fun k hk => (hb k (.inl hk)).trans (h.low.block k hk)⟩,
    (World.cell?_of_block (hb N (.inr (.inl rfl)))).trans h.box, (World.cell?_of_block (hb (N + 2) (.inr (.inr rfl)))).trans h.fst⟩

/-- The places that nobody writes while the chain is at work. -/
def StillR (N : Nat) (a0 : Option Addr) (l : Loc) : Prop := (∃ ad : Addr, l = .cell ad ∧ (ad.block = N ∨ ad.block = N + 2 ∨ ∃ z, a0 = some z ∧ ad.block = z.block)) ∨ ∃ p, l = .obj (cN N p)

/-- Each one's records between its communications. -/
def RelayW (N : Nat) (a0 : Option Addr) (cap : Nat) (vs : List Int) (a : Nat → Int) (p : Nat) : PS → Goroutine → Prop
  | .feed r, g => p = 0 ∧ ((g = born Try.prog (call19 (N + 2) N) ∧ r = vs) ∨ ∃ j v j2 j3 j8 j9 j10 j13, j < vs.length ∧ r = vs.drop (j + 1) ∧ g = gFed (N + 2) N (N + 1) a0 vs.length cap j v j2 j3 j8 j9 j10 j13)
  | .want, g => g = born Try.prog (call20 (a p) (cN N (p - 1)) (cN N p)) ∨ ∃ j3 j4 j5 j6 j7 j9 j10 r j12 j13 j14 j15 j16 j17 j18 j19, g = gGave (a p) (cN N (p - 1)) (cN N p) j3 j4 j5 j6 j7 j9 j10 r j12 j13 j14 j15 j16 j17 j18 j19
  | .hold v, g => ∃ x j3 j4 j5 j6 j7 j9 j10 j12 j13 j14 j15 j16 j17 j18 j19, v = plus a p x ∧ g = gTook (a p) (cN N (p - 1)) (cN N p) j3 j4 j5 j6 j7 j9 j10 (.tuple #[num x, .bool true]) j12 j13 j14 j15 j16 j17 j18 j19
  | .done, g => ∃ j3 j4 j5 j6 j7 j9 j10 j12 j13 j14 j15 j16 j17 j18 j19, g = gTook (a p) (cN N (p - 1)) (cN N p) j3 j4 j5 j6 j7 j9 j10 (.tuple #[zer, .bool false]) j12 j13 j14 j15 j16 j17 j18 j19
  | .gone, _ => False

/-- What a call of crew.Relay is given: the world at its entry, and the two rows. -/
structure RIn where
  W : World
  a0 : Option Addr
  cap : Nat
  vs : List Int
  a1 : Option Addr
  cap1 : Nat
  ys : List Int
structure RIn.Ok (I : RIn) (S : Loc → Prop) : Prop where
  v : ∀ (j : Nat) v, I.vs[j]? = some v → ∃ ad, I.a0 = some ad ∧ I.W.cell? (ad.add j) = some (num v)
  a : ∀ (j : Nat) v, I.ys[j]? = some v → ∃ ad, I.a1 = some ad ∧ I.W.cell? (ad.add j) = some (num v)
  vlen : I.vs.length * 8 ≤ 140737488355328
  alen : I.ys.length * 8 ≤ 140737488355328
  va : ∀ ad, I.a0 = some ad → ad.block < I.W.heap.size ∧ ∀ x : Addr, x.block = ad.block → ¬ S (.cell x)
  aa : ∀ ad, I.a1 = some ad → ad.block < I.W.heap.size ∧ ∀ x : Addr, x.block = ad.block → ¬ S (.cell x)
  new : ∀ l, S l → l.low I.W.heap.size

noncomputable def relay (I : RIn) (S : Loc → Prop) (b B : Nat) : Cfg where
  P := Try.prog
  S := KR I.W I.W.heap.size I.a0 I.vs.length I.cap
  Still := StillR I.W.heap.size I.a0
  Shun := S
  B := B
  T := I.ys.length + 1
  c := cN I.W.heap.size
  a := fun p => I.ys.getD (p - 1) 0
  vs := I.vs
  W := RelayW I.W.heap.size I.a0 I.cap I.vs (fun p => I.ys.getD (p - 1) 0)
  b0 := b

section
variable {I : RIn} {S : Loc → Prop} {b B : Nat}
theorem relay_source (h : I.Ok S) (hB : I.W.heap.size + 3 ≤ B) : Source (relay I S b B).S (relay I S b B).Still B (I.W.heap.size + 2) I.W.heap.size (I.W.heap.size + 1) I.a0 I.cap I.vs where
  box w k := k.box
  fst w k := k.fst
  el j v e := by
    obtain ⟨ad, h0, hc⟩ := h.v j v e
    refine ⟨ad, h0, by have := (h.va ad h0).1; omega, .inl ⟨_, rfl, .inr (.inr ⟨ad, h0, addBlk ad j⟩)⟩, fun w k => ?_⟩
    rw [k.low.cell (by rw [addBlk]; exact (h.va ad h0).1)]; exact hc
  boxS := .inl ⟨_, rfl, .inl rfl⟩
  fstS := .inl ⟨_, rfl, .inr (.inl rfl)⟩
  boxB := by omega
  fstB := by omega
  len := by have := h.vlen; omega

theorem relay_fine (h : I.Ok S) (hb : 0 < b) (hB : I.W.heap.size + 4 + I.ys.length ≤ B) : (relay I S b B).Fine where
  inj p q e := by
    have e : cN I.W.heap.size p = cN I.W.heap.size q := e
    unfold cN at e; split at e <;> split at e <;> omega
  low p hp := by
    have hp : p < I.ys.length + 1 := hp
    show cN I.W.heap.size p < B
    unfold cN; split <;> omega
  obj p := .inr ⟨p, rfl⟩
  stable w w₁ r k := KR.aside (w := w) k r
  pos := hb
  posT := Nat.succ_pos _
  walk p s g hp hs hW := by
    have H := relay_source (I := I) (S := S) (b := b) (B := B) h (by omega)
    have hW : RelayW I.W.heap.size I.a0 I.cap I.vs (fun p => I.ys.getD (p - 1) 0) p s g := hW
    cases s with
    | feed r =>
      obtain ⟨rfl, hg⟩ := hW
      have key : ∀ j, j ≤ I.vs.length → ∀ j2 j3 j8 j9 j10 j11 j12 j13, ∀ w, Goes Try.prog false (fun _ w₁ => (relay I S b B).S w₁) (DS (relay I S b B).Still B) (fun g₁ _ => StopW (relay I S b B) 0 (.feed (I.vs.drop j)) g₁) 30
          (gTest (I.W.heap.size + 2) I.W.heap.size (I.W.heap.size + 1) I.a0 I.vs.length I.cap j j2 j3 j8 j9 j10 j11 j12 j13) w := fun j hj j2 j3 j8 j9 j10 j11 j12 j13 => by
        refine feed_test H j hj (fun v hv j2 j3 j8 j9 j10 j13 w _ => ?_) (fun e T k w _ => ?_) _ _ _ _ _ _ _ _
        · obtain ⟨hlt, hv'⟩ := List.getElem?_eq_some_iff.1 hv
          rw [List.drop_eq_getElem_cons hlt, hv']
          have hn : RelayW I.W.heap.size I.a0 I.cap I.vs (fun p => I.ys.getD (p - 1) 0) 0 (.feed (I.vs.drop (j + 1))) (gFed (I.W.heap.size + 2) I.W.heap.size (I.W.heap.size + 1) I.a0 I.vs.length I.cap j v j2 j3 j8 j9 j10 j13) :=
            ⟨rfl, .inr ⟨j, v, j2, j3, j8, j9, j10, j13, hlt, rfl, rfl⟩⟩
          have hP : (relay I S b B).P = Try.prog := rfl
          have hc : (relay I S b B).c 0 = I.W.heap.size + 1 := rfl
          show AtGive (relay I S b B) 0 v ((relay I S b B).W 0 (.feed (I.vs.drop (j + 1)))) _
          exact feed_give hP hc j2 j3 j8 j9 j10 j13 hn
        · rw [e, List.drop_length]
          exact feed_close (C := relay I S b B) rfl rfl T k
      have born0 : ∀ j, j ≤ I.vs.length → ∃ k, ∀ j2 j3 j8 j9 j10 j11 j12 j13 w, Goes Try.prog false (fun _ w₁ => (relay I S b B).S w₁) (DS (relay I S b B).Still B) (fun g₁ _ => StopW (relay I S b B) 0 (.feed (I.vs.drop j)) g₁) k
          (gTest (I.W.heap.size + 2) I.W.heap.size (I.W.heap.size + 1) I.a0 I.vs.length I.cap j j2 j3 j8 j9 j10 j11 j12 j13) w := fun j hj => ⟨30, fun j2 j3 j8 j9 j10 j11 j12 j13 w => key j hj j2 j3 j8 j9 j10 j11 j12 j13 w⟩
      rcases hg with ⟨rfl, rfl⟩ | ⟨j, v, j2, j3, j8, j9, j10, j13, hlt, rfl, rfl⟩
      · obtain ⟨k, hk⟩ := born0 0 (Nat.zero_le _)
        obtain ⟨n, hn⟩ := feed_birth H hk
        exact ⟨n, hn default⟩
      · obtain ⟨k, hk⟩ := born0 (j + 1) hlt
        obtain ⟨n, hn⟩ := feed_next H j hlt hk v j2 j3 j8 j9 j10 j13
        exact ⟨n, hn default⟩
    | want =>
      obtain ⟨n₁, h1⟩ := hand_birth (S := (relay I S b B).S) (Still := (relay I S b B).Still) (B := B) (Stop := fun g₁ _ => StopW (relay I S b B) p .want g₁) (x := (fun p => I.ys.getD (p - 1) 0) p) (f := cN I.W.heap.size (p - 1)) (c := cN I.W.heap.size p)
        (fun j3 j4 j5 j6 j7 j9 r j12 j13 j14 j15 j16 j17 j18 j19 w _ => hand_take (C := relay I S b B) rfl rfl _ _ _ _ _ _ _ _ _ _ _ _ _ _ _ (fun v => ⟨v, _, _, _, _, _, _, _, _, _, _, _, _, _, _, _, rfl, rfl⟩) ⟨_, _, _, _, _, _, _, _, _, _, _, _, _, _, _, rfl⟩)
      rcases hW with rfl | ⟨j3, j4, j5, j6, j7, j9, j10, r, j12, j13, j14, j15, j16, j17, j18, j19, rfl⟩
      · exact ⟨n₁, h1 default⟩
      · obtain ⟨n₂, h2⟩ := hand_again (S := (relay I S b B).S) (Still := (relay I S b B).Still) (B := B) (Stop := fun g₁ _ => StopW (relay I S b B) p .want g₁) (x := (fun p => I.ys.getD (p - 1) 0) p) (f := cN I.W.heap.size (p - 1)) (c := cN I.W.heap.size p)
          (fun j3 j4 j5 j6 j7 j9 r j12 j13 j14 j15 j16 j17 j18 j19 w _ => hand_take (C := relay I S b B) rfl rfl _ _ _ _ _ _ _ _ _ _ _ _ _ _ _ (fun v => ⟨v, _, _, _, _, _, _, _, _, _, _, _, _, _, _, _, rfl, rfl⟩) ⟨_, _, _, _, _, _, _, _, _, _, _, _, _, _, _, rfl⟩) j3 j4 j5 j6 j7 j9 j10 r j12 j13 j14 j15 j16 j17 j18 j19
        exact ⟨n₂, h2 default⟩
    | hold v =>
      obtain ⟨x, j3, j4, j5, j6, j7, j9, j10, j12, j13, j14, j15, j16, j17, j18, j19, rfl, rfl⟩ := hW
      obtain ⟨n₂, h2⟩ := hand_took (S := (relay I S b B).S) (Still := (relay I S b B).Still) (B := B) (Stop := fun g₁ _ => StopW (relay I S b B) p (.hold (plus (fun p => I.ys.getD (p - 1) 0) p x)) g₁) (x := (fun p => I.ys.getD (p - 1) 0) p) (f := cN I.W.heap.size (p - 1)) (c := cN I.W.heap.size p) x
        (fun j3 j4 j5 j6 j7 j9 j10 r j12 j13 j14 j15 j17 j18 w _ => hand_give (C := relay I S b B) rfl rfl _ _ _ _ _ _ _ _ _ _ _ _ _ _ (.inr ⟨_, _, _, _, _, _, _, _, _, _, _, _, _, _, _, _, rfl⟩)) j3 j4 j5 j6 j7 j9 j10 j12 j13 j14 j15 j16 j17 j18 j19
      exact ⟨n₂, h2 default⟩
    | done =>
      obtain ⟨j3, j4, j5, j6, j7, j9, j10, j12, j13, j14, j15, j16, j17, j18, j19, rfl⟩ := hW
      obtain ⟨n₂, h2⟩ := hand_shut (S := (relay I S b B).S) (Still := (relay I S b B).Still) (B := B) (Stop := fun g₁ _ => StopW (relay I S b B) p .done g₁) (x := (fun p => I.ys.getD (p - 1) 0) p) (f := cN I.W.heap.size (p - 1)) (c := cN I.W.heap.size p)
        (fun T k w _ => hand_close (C := relay I S b B) rfl rfl T k) j3 j4 j5 j6 j7 j9 j10 j12 j13 j14 j15 j16 j17 j18 j19
      exact ⟨n₂, h2 default⟩
    | gone => exact absurd rfl hs
end
end Go.Proofs.Ytdpagejckahkkaa.Net
