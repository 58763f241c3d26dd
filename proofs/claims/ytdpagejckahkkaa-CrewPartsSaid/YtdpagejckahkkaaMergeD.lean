/- Many senders and one receiver, joined by a sync.WaitGroup: where each goroutine is, and what is held of the machine at every moment. -/
import Derived.Test.YtdpagejckahkkaaMergeC
set_option linter.unusedVariables false
namespace Go.Proofs.Ytdpagejckahkkaa.Net
open Go Go.Conc
open Go.ConcN (ShN WgLive sumTo upd upd_same upd_ne sumTo_congr sumTo_upd)
open Go.ConcR (KK WgAt stA smA rd wr mk)

/-- How far it is from its end. -/
def MS.wt : MS → Nat
  | .feed r => 2 * r.length + 8
  | .shut => 7
  | .done => 6
  | .rel => 5
  | .deaf => 4
  | .l2 => 3
  | .l3 => 2
  | .l4 => 1
  | .gone => 0
/-- Its channel is shut. -/
def MS.closed : MS → Bool
  | .feed _ | .shut => false
  | _ => true
/-- The group still counts it. -/
def MS.counted : MS → Nat
  | .feed _ | .shut | .done | .rel | .deaf => 1
  | _ => 0
/-- It hears. -/
def MS.hears : MS → Prop
  | .feed _ | .shut | .done | .rel => True
  | _ => False
/-- What it has still to send. -/
def MS.rest : MS → List Int
  | .feed r => r
  | _ => []

variable {C : MCfg}

theorem StopM.running {p : Nat} {s : MS} {g : Goroutine} (h : StopM C p s g) : g.status = .running := by
  cases s with
  | feed r => cases r <;> exact h.1
  | gone => exact h.elim
  | _ => exact h.1
theorem GoesM.running {p n : Nat} {s : MS} {g : Goroutine} {w : World} (hS : C.S w) (h : GoesM C p s n g) : g.status = .running := Goes.running (fun _ _ => StopM.running) w hS h

theorem AtSel.again {p : Nat} {v : Int} {NS ND : Goroutine → Prop} {g : Goroutine} {cs : Array CommCase} {sh : CommShape} (h : AtSel C p v NS ND g) : AtSel C p v NS ND { parked (core g) cs sh with status := .running } := by
  obtain ⟨_, sh', z, zd, h1, h2, h3⟩ := h
  exact ⟨rfl, sh', z, zd, fun w hw => (stepG_same (h := g) rfl rfl rfl w).trans (h1 w hw), h2, h3⟩

/-- Where a sender is: on its way; parked at its select; it only leaves, so deaf. -/
inductive SitM (C : MCfg) (p : Nat) : MS → Nat → Nat → Goroutine → Prop
  | way {s : MS} {n δ : Nat} {g : Goroutine} : s ≠ .gone → (s.hears → δ = 0) → (¬ s.hears → δ = 1) → GoesM C p s n g → SitM C p s (n + 1) δ g
  | parks {v : Int} {r : List Int} {g₀ : Goroutine} {sh : CommShape} {z zd : Value} : AtSel C p v (C.W p (.feed r)) (C.W p .shut) g₀ →
      C.W p (.feed r) ((core g₀).finishComm C.P (twoCases (C.c p) (num v) z C.d zd) sh 0 undef false) → SitM C p (.feed (v :: r)) 0 0 (parked (core g₀) (twoCases (C.c p) (num v) z C.d zd) sh)
  | gone {n δ : Nat} {g : Goroutine} : QuitsD C.P n δ g → SitM C p .gone n δ g

theorem SitM.hears {p n δ : Nat} {s : MS} {g : Goroutine} (h : SitM C p s n δ g) (hs : s.hears) : δ = 0 := by
  cases h with
  | way _ h0 _ _ => exact h0 hs
  | parks _ _ => rfl
  | gone _ => exact hs.elim

/-- The senders that the group counts. -/
def countOf (st : Nat → MS) (m : Nat) : Nat := sumTo m fun p => (st p).counted

/-! ### goroutine 0 -/
inductive Ph where
  | sp (k : Nat)
  | sd (k : Nat)
  | se (k : Nat)
  | sg (k : Nat)
  | turns (l : List (Nat × Option Int))
  | wd
  | w1
  | w2 (vs : Nat)
  | w3
  | w4
  | ke
  | acq

/-- What the group counts beside the senders. -/
def Ph.x : Ph → Nat
  | .se _ | .sg _ => 1
  | _ => 0
/-- The stop is shut. -/
def Ph.stop : Ph → Bool
  | .sp _ | .sd _ | .se _ | .sg _ | .turns _ => false
  | _ => true
def Ph.hears : Ph → Bool
  | .sd _ | .se _ | .w1 | .w2 _ | .w3 | .w4 | .ke => false
  | _ => true
/-- The turns that are left. -/
def Ph.list (L : List (Nat × Option Int)) : Ph → List (Nat × Option Int)
  | .sp _ | .sd _ | .se _ | .sg _ => L
  | .turns l => l
  | _ => []
/-- How many are started. -/
def Ph.upto (T : Nat) : Ph → Nat
  | .sp k | .sd k | .se k | .sg k => T - (k + 1)
  | _ => T
def Ph.room (T : Nat) : Ph → Prop
  | .sp k | .sd k | .se k | .sg k => k + 1 ≤ T
  | .w2 vs => vs ≠ 0
  | _ => True
/-- Nobody is counted any more. -/
def Ph.over : Ph → Prop
  | .w4 | .ke | .acq => True
  | _ => False
def Ph.wt (W : Nat) (cnt : Nat) : Ph → Nat
  | .sp _ => W + 13
  | .sd _ => W + 12
  | .se _ => W + 11
  | .sg _ => W + 10
  | .turns l => 2 * l.length + 9
  | .wd => 8
  | .w1 => 6
  | .w2 vs => if vs = cnt then 5 else 7
  | .w3 => 4
  | .w4 => 3
  | .ke => 2
  | .acq => 1

section
variable (C) (Fin Anch : Goroutine → World → Prop) (L : List (Nat × Option Int))
def StopP : Ph → Goroutine → World → Prop
  | .sp k => At0Mark C .disable (GP C (C.T - (k + 1)) (AtAddM C (C.T - (k + 1)) (StartsM C (TurnsM C Anch L) k)))
  | .sd k => AtAddM C (C.T - (k + 1)) (StartsM C (TurnsM C Anch L) k)
  | .se k => At0Mark C .enable (GP C (C.T - (k + 1)) (AtGoM C (C.T - (k + 1)) (StartsM C (TurnsM C Anch L) k)))
  | .sg k => AtGoM C (C.T - (k + 1)) (StartsM C (TurnsM C Anch L) k)
  | .turns [] => AtStopM C Anch
  | .turns ((t, o) :: l) => AtTurnM C t (TurnsM C Anch l) (found o)
  | .wd => At0Mark C .disable (GP C C.T Anch)
  | .w1 => AtW1M C Fin Anch
  | .w2 vs => AtW2M C Fin Anch vs
  | .w3 => AtW3M C Fin
  | .w4 => AtW4M C Fin
  | .ke => AtKeM C Fin
  | .acq => AtAcqM C Fin
/-- It is on its way to there. -/
def GoP (ph : Ph) (n : Nat) (g : Goroutine) (w : World) : Prop := Goes C.P true (AsideM C (ph.upto C.T)) (D0 C (ph.upto C.T)) (StopP C Fin Anch L ph) n g w

/-- Where goroutine 0 is. -/
inductive SitP : Ph → Nat → Goroutine → World → Prop
  | way {ph : Ph} {n : Nat} {g : Goroutine} {w : World} : ph.room C.T → GoP C Fin Anch L ph n g w → SitP ph (n + 1) g w
  | park {t : Nat} {o : Option Int} {l : List (Nat × Option Int)} {g₀ : Goroutine} {w : World} : (∀ w₁, AsideM C C.T w w₁ → AtTurnM C t (TurnsM C Anch l) (found o) g₀ w₁) → SitP (.turns ((t, o) :: l)) 0 (parked (core g₀) #[rcase (C.c t) zer] (.recv true)) w
  | sem {g₀ : Goroutine} {w : World} : (∀ w₁, AsideM C C.T w w₁ → AtW3M C Fin g₀ w₁) → SitP .w3 0 { g₀ with status := .blocked } w
end

variable {Fin Anch : Goroutine → World → Prop} {L : List (Nat × Option Int)}

theorem StopP.running {ph : Ph} {g : Goroutine} {w : World} (h : StopP C Fin Anch L ph g w) : g.status = .running := by
  cases ph with
  | turns l => cases l <;> exact h.1
  | _ => exact h.1
theorem GoP.running {ph : Ph} {n : Nat} {g : Goroutine} {w : World} (h : GoP C Fin Anch L ph n g w) : g.status = .running := Goes.running (fun _ _ => StopP.running) w (AsideM.refl _ w) h
theorem GoP.rely {ph : Ph} {n : Nat} {g : Goroutine} {w w₁ : World} (h : GoP C Fin Anch L ph n g w) (r : AsideM C (ph.upto C.T) w w₁) : GoP C Fin Anch L ph n g w₁ := Goes.rely (R := AsideM C (ph.upto C.T)) (fun _ _ _ h h' => AsideM.trans h h') h r
theorem SitP.room {ph : Ph} {n : Nat} {g : Goroutine} {w : World} (h : SitP C Fin Anch L ph n g w) : ph.room C.T := by
  cases h with
  | way h _ => exact h
  | park _ => trivial
  | sem _ => trivial
theorem SitP.rely {ph : Ph} {n : Nat} {g : Goroutine} {w w₁ : World} (h : SitP C Fin Anch L ph n g w) (r : AsideM C (ph.upto C.T) w w₁) : SitP C Fin Anch L ph n g w₁ := by
  cases h with
  | way h1 h2 => exact .way h1 (h2.rely r)
  | park h => exact .park fun w₂ h₂ => h w₂ (AsideM.trans r h₂)
  | sem h => exact .sem fun w₂ h₂ => h w₂ (AsideM.trans r h₂)
theorem SitP.status {ph : Ph} {n : Nat} {g : Goroutine} {w : World} (h : SitP C Fin Anch L ph n g w) : (g.status = .running ∧ 0 < n) ∨ (g.status = .blocked ∧ n = 0) := by
  cases h with
  | way _ h => exact .inl ⟨h.running, by omega⟩
  | park _ => exact .inr ⟨rfl, rfl⟩
  | sem _ => exact .inr ⟨rfl, rfl⟩

theorem gp_turns {l : List (Nat × Option Int)} {g : Goroutine} {w : World} (h : TurnsM C Anch l g w) : ∃ n, GoP C Fin Anch L (.turns l) n g w := by
  cases l with
  | nil => exact h
  | cons a l => obtain ⟨t, o⟩ := a; exact h
theorem gp_starts {k : Nat} {g : Goroutine} {w : World} (h : StartsM C (TurnsM C Anch L) (k + 1) g w) : ∃ n, GoP C Fin Anch L (.sp k) n g w := h

theorem AtTurnM.again {t : Nat} {Next : Goroutine → World → Prop} {r : Value} {g : Goroutine} {w : World} {cs : Array CommCase} {sh : CommShape} (h : AtTurnM C t Next r g w) : AtTurnM C t Next r { parked (core g) cs sh with status := .running } w := by
  have e : stepG C.P true { parked (core g) cs sh with status := .running } w = stepG C.P true g w := stepG_same rfl rfl rfl w
  obtain ⟨_, es, h1, h2, h3⟩ := h
  exact ⟨rfl, es, by rw [e]; exact h1, h2, h3⟩

/-- What becomes of goroutine 0 when another's step wakes who can go on. -/
theorem SitP.woken {ph : Ph} {n : Nat} {g x x' : Goroutine} {w : World} (h : SitP C Fin Anch L ph n g w) (hch : ∀ t o l, ph = .turns ((t, o) :: l) → n = 0 → ∃ b s r, w.heap[C.c t]? = some (.chan 0 #[] b s r false)) :
    ∃ n', SitP C Fin Anch L ph n' (woken C.P x x' w g) w ∧ n ≤ n' ∧ n' ≤ n + 1 ∧ (mayWake C.P x = true → (x'.status = .running ∨ x'.status = .finished) → (ph = .w3 ∨ ∃ t o l s r, ph = .turns ((t, o) :: l) ∧ w.heap[C.c t]? = some (.chan 0 #[] true s r false)) → 0 < n') := by
  cases h with
  | way h1 h2 => exact ⟨_, by rw [woken_running h2.running]; exact .way h1 h2, Nat.le_refl _, by omega, fun _ _ _ => by omega⟩
  | @park t o l g₀ _ h =>
    obtain ⟨b, s, r, hc⟩ := hch t o l rfl rfl
    cases b with
    | false =>
      refine ⟨0, by rw [woken_recv_open x x' hc]; exact .park h, Nat.le_refl _, by omega, fun _ _ hh => ?_⟩
      rcases hh with e | ⟨t', o', l', s', r', e, hc'⟩
      · cases e
      · obtain ⟨⟨rfl, _⟩, _⟩ : (t = t' ∧ o = o') ∧ l = l' := by simpa using e
        rw [hc] at hc'
        simp at hc'
    | true =>
      by_cases hw : (mayWake C.P x && x'.status != .blocked && x'.status != .waiting) = true
      · have e2 : Go.Conc.woken C.P x x' w (parked (core g₀) #[rcase (C.c t) zer] (.recv true)) = { parked (core g₀) #[rcase (C.c t) zer] (.recv true) with status := .running } := by
          unfold Go.Conc.woken
          rw [if_pos hw]
          exact again_recv_closed hc
        exact ⟨1, by rw [e2]; exact .way trivial (Goes.stop fun w₁ h₁ => (h w₁ h₁).again), by omega, by omega, fun _ _ _ => by omega⟩
      · have e2 : Go.Conc.woken C.P x x' w (parked (core g₀) #[rcase (C.c t) zer] (.recv true)) = parked (core g₀) #[rcase (C.c t) zer] (.recv true) := by
          unfold Go.Conc.woken
          rw [if_neg hw]
        exact ⟨0, by rw [e2]; exact .park h, by omega, by omega, fun h1 h2 _ => absurd (by rcases h2 with h2 | h2 <;> simp [h1, h2]) hw⟩
  | @sem g₀ _ h =>
    by_cases hw : (mayWake C.P x && x'.status != .blocked && x'.status != .waiting) = true
    · obtain ⟨r1, r2, _⟩ := h w (AsideM.refl _ w)
      have e2 : Go.Conc.woken C.P x x' w ({ g₀ with status := .blocked } : Goroutine) = g₀ := by
        unfold Go.Conc.woken
        rw [if_pos hw]
        exact Go.ConcR.again_blocked r1 r2 w
      exact ⟨1, by rw [e2]; exact .way trivial (Goes.stop fun w₁ h₁ => h w₁ h₁), by omega, by omega, fun _ _ _ => by omega⟩
    · have e2 : Go.Conc.woken C.P x x' w ({ g₀ with status := .blocked } : Goroutine) = { g₀ with status := .blocked } := by
        unfold Go.Conc.woken
        rw [if_neg hw]
      exact ⟨0, by rw [e2]; exact .sem h, by omega, by omega, fun h1 h2 _ => absurd (by rcases h2 with h2 | h2 <;> simp [h1, h2]) hw⟩

/-- The turns answer what the senders have. -/
def Agrees (T : Nat) : (Nat → List Int) → List (Nat × Option Int) → Prop
  | _, [] => True
  | rest, (t, o) :: l => t < T ∧ o = (rest t).head? ∧ Agrees T (upd rest t (rest t).tail) l
def restOf (st : Nat → MS) : Nat → List Int := fun p => (st p).rest
theorem restOf_upd {st : Nat → MS} {p : Nat} {s : MS} (h : s.rest = (st p).rest) : restOf (upd st p s) = restOf st := by
  funext z
  unfold restOf
  by_cases e : z = p
  · subst e; rw [upd_same, h]
  · rw [upd_ne _ _ e]
theorem restOf_give {st : Nat → MS} {p : Nat} {v : Int} {r : List Int} (h : st p = .feed (v :: r)) : restOf (upd st p (.feed r)) = upd (restOf st) p (restOf st p).tail := by
  funext z
  unfold restOf
  by_cases e : z = p
  · subst e; rw [upd_same, upd_same, h]; rfl
  · rw [upd_ne _ _ e, upd_ne _ _ e]
theorem restOf_none {st : Nat → MS} {p : Nat} (h : (st p).rest = []) : upd (restOf st) p (restOf st p).tail = restOf st := by
  funext z
  by_cases e : z = p
  · subst e; rw [upd_same]; unfold restOf; rw [h]; rfl
  · rw [upd_ne _ _ e]

/-- How the group stands with goroutine 0. -/
inductive Bell (ph : Ph) (m : Nat) (st : Nat → MS) (n : Nat) : Nat → Nat → Prop
  | calm : ph ≠ .w3 → (∀ p, p < m → st p ≠ .l2 ∧ st p ≠ .l3 ∧ st p ≠ .l4) → Bell ph m st n 0 0
  | waits : ph = .w3 → 0 < countOf st m → (∀ p, p < m → st p ≠ .l2 ∧ st p ≠ .l3 ∧ st p ≠ .l4) → Bell ph m st n 1 0
  | last {p : Nat} : ph = .w3 → p < m → (st p = .l2 ∨ st p = .l3) → (∀ z, z < m → z ≠ p → st z = .gone) → Bell ph m st n 1 0
  | rings {p : Nat} : ph = .w3 → p < m → st p = .l4 → (∀ z, z < m → z ≠ p → st z = .gone) → Bell ph m st n 0 0
  | rung : ph = .w3 → (∀ z, z < m → st z = .gone) → 0 < n → Bell ph m st n 0 1

theorem Bell.mono {ph : Ph} {m : Nat} {st : Nat → MS} {n n' a b : Nat} (h : Bell ph m st n a b) (hn : n ≤ n') : Bell ph m st n' a b := by
  cases h with
  | calm h1 h2 => exact .calm h1 h2
  | waits h1 h2 h3 => exact .waits h1 h2 h3
  | last h1 h2 h3 h4 => exact .last h1 h2 h3 h4
  | rings h1 h2 h3 h4 => exact .rings h1 h2 h3 h4
  | rung h1 h2 h3 => exact .rung h1 h2 (by omega)

/-! ### the invariant -/
variable (C Fin Anch L) in
structure InvT (t0 : Nat) (gs : Array Goroutine) (w : World) (t : Trace) (m : Nat) (st : Nat → MS) (r q : Nat → Nat) (ph : Ph) (n : Nat) (a : Goroutine) : Prop where
  size : gs.size = C.b0 + m
  upto : m = ph.upto C.T
  old : ∀ i g, 0 < i → i < C.b0 → gs[i]? = some g → QuitsD C.P (q i) (Deaf t i) g
  above : ∀ j, gs.size ≤ j → Deaf t j = 0
  work : ∀ p, p < m → ∃ g, gs[C.b0 + p]? = some g ∧ SitM C p (st p) (r p) (Deaf t (C.b0 + p)) g
  todo : ∀ p, m ≤ p → st p = .feed (C.parts p)
  chan : ∀ p, p < m → ∃ s r, w.heap[C.c p]? = some (.chan 0 #[] (st p).closed s r false)
  halt : ∃ s r, w.heap[C.d]? = some (.chan 0 #[] ph.stop s r false)
  told : ∀ p, p < m → st p = .shut → ph.stop = true
  idle : ∀ p, p < m → st p ≠ .gone → r p = 0 → ph.stop = false
  bell : ∃ wt sm : Nat, WgAt C.ty C.Wg w (((countOf st m + ph.x : Nat) : Int) * KK + (wt : Int)) (sm : Int) ∧ Bell ph m st n wt sm
  over : ph.over → ∀ p, p < m → st p = .gone
  S : C.S w
  qt : QT C.Shun C.Still C.B C.Wg t0 (Team C.b0 m) (fun _ => False) t
  rel : ∀ p, p < m → (st p).said → ∃ r, RelW C.Wg t0 t (C.b0 + p) r
  d0 : Deaf t 0 = if ph.hears then 0 else 1
  main : gs[0]? = some a
  sit : SitP C Fin Anch L ph n a w
  agr : Agrees C.T (restOf st) (ph.list L)
  fed : ∀ x o l, ph = .turns ((x, o) :: l) → n = 0 → (st x).closed = false ∧ r x ≠ 0

def massM (C : MCfg) (L : List (Nat × Option Int)) (m : Nat) (st : Nat → MS) (ph : Ph) : Nat := sumTo C.T (fun p => (st p).wt) + 10 * (C.T - m) + ph.wt (2 * L.length) (countOf st m)
def fuelM (C : MCfg) (n m : Nat) (r q : Nat → Nat) : Nat := n + 3 * sumTo m r + 3 * sumTo C.b0 q

variable (C Fin Anch L) in
def HoldsM (t0 : Nat) (μ : Nat × Nat) (M : Machine) (t : Trace) : Prop :=
  ∃ gs w sl m st r q ph n a, M = crowd gs w sl ∧ InvT C Fin Anch L t0 gs w t m st r q ph n a ∧ μ = (massM C L m st ph, fuelM C n m r q)
variable (C Fin) in
def DoneT (M : Machine) (t : Trace) : Prop :=
  ∃ gs w sl a q, M = crowd gs w sl ∧ gs[0]? = some a ∧ Fin a w ∧ Leavers C.P t gs q ∧ Past (fun l => C.Shun l ∨ ShN C.Wg l) C.B t ∧ gs.size = C.b0 + C.T

variable {t0 : Nat} {gs : Array Goroutine} {w : World} {t : Trace} {m : Nat} {st : Nat → MS} {r q : Nat → Nat} {ph : Ph} {n : Nat} {a : Goroutine} {sl : Option (Nat × Nat)}

theorem InvT.mT (I : InvT C Fin Anch L t0 gs w t m st r q ph n a) : m ≤ C.T := by
  rw [I.upto]
  cases ph <;> simp [Ph.upto]
theorem InvT.all (I : InvT C Fin Anch L t0 gs w t m st r q ph n a) {l : List (Nat × Option Int)} (h : ph.stop = true ∨ ph = .turns l) : m = C.T := by
  rw [I.upto]
  rcases h with h | rfl
  · cases ph <;> first | rfl | cases h
  · rfl
theorem InvT.idx (I : InvT C Fin Anch L t0 gs w t m st r q ph n a) {k : Nat} {g : Goroutine} (hg : gs[k]? = some g) : k = 0 ∨ (0 < k ∧ k < C.b0) ∨ ∃ p, p < m ∧ k = C.b0 + p := by
  have hlt := (Array.getElem?_eq_some_iff.1 hg).1
  rw [I.size] at hlt
  rcases Nat.eq_zero_or_pos k with h | h
  · exact .inl h
  · rcases Nat.lt_or_ge k C.b0 with h1 | h1
    · exact .inr (.inl ⟨h, h1⟩)
    · exact .inr (.inr ⟨k - C.b0, by omega, by omega⟩)
theorem InvT.at (F : C.Fine Anch Fin) (I : InvT C Fin Anch L t0 gs w t m st r q ph n a) (d : Nat) : C.S (w.at d) := F.stable _ _ (AsideM.at _ _ _) I.S

/-- A sender that is parked stays so while its channel and the stop are open. -/
theorem SitM.woken {p x δ : Nat} {s : MS} {g y y' : Goroutine} {w' : World} (hS : C.S w) (h : SitM C p s x δ g) (h1 : x = 0 → s ≠ .gone → (∃ a b, w'.heap[C.c p]? = some (.chan 0 #[] false a b false)) ∧ ∃ a b, w'.heap[C.d]? = some (.chan 0 #[] false a b false)) : woken C.P y y' w' g = g := by
  cases h with
  | gone hq => exact woken_quitsD hq
  | way _ _ _ hg => exact woken_running (hg.running hS)
  | parks _ _ =>
    obtain ⟨⟨a, b, hc⟩, e, f, hd⟩ := h1 rfl (by simp)
    exact woken_of_again (again_two_open hc hd)
theorem SitM.status {p x δ : Nat} {s : MS} {g : Goroutine} (hS : C.S w) (h : SitM C p s x δ g) : g.status = .running ∨ g.status = .blocked ∨ g.status = .finished := by
  cases h with
  | gone hq => rcases hq.status with h | h <;> simp [h]
  | way _ _ _ hg => exact .inl (hg.running hS)
  | parks _ _ => exact .inr (.inl rfl)
theorem SitM.open_ {p δ : Nat} {s : MS} {g : Goroutine} (h : SitM C p s 0 δ g) (hs : s ≠ .gone) : s.closed = false := by
  cases h with
  | gone _ => exact absurd rfl hs
  | parks _ _ => rfl

/-- An own step of somebody's leaves the senders as they are. -/
theorem InvT.still (I : InvT C Fin Anch L t0 gs w t m st r q ph n a) {i : Nat} {x x' : Goroutine} {w' : World} (hch : ∀ p, p < m → C.b0 + p ≠ i → w'.heap[C.c p]? = w.heap[C.c p]?) (hd : w'.heap[C.d]? = w.heap[C.d]?) :
    ∀ k, 0 < k → k ≠ i → ((gs.map (woken C.P x x' w')).setIfInBounds i x')[k]? = gs[k]? := by
  intro k h0 hk
  rw [get_one _ _ hk, Array.getElem?_map]
  cases hg : gs[k]? with
  | none => rfl
  | some g =>
    simp only [Option.map_some, Option.some.injEq]
    rcases I.idx hg with rfl | ⟨h1, h2⟩ | ⟨p, hp, rfl⟩
    · omega
    · exact woken_quitsD (I.old k g h1 h2 hg)
    · obtain ⟨g', hg', hs⟩ := I.work p hp
      rw [hg] at hg'
      obtain rfl := Option.some.inj hg'
      refine hs.woken I.S fun hr hne => ?_
      obtain ⟨s1, r1, hc⟩ := I.chan p hp
      obtain ⟨s2, r2, hh⟩ := I.halt
      rw [I.idle p hp hne hr] at hh
      rw [hr] at hs
      rw [hs.open_ hne] at hc
      exact ⟨⟨s1, r1, by rw [hch p hp hk]; exact hc⟩, s2, r2, by rw [hd]; exact hh⟩

theorem InvT.awake (I : InvT C Fin Anch L t0 gs w t m st r q ph n a) : ∀ g ∈ gs, awake g := by
  intro g hg
  obtain ⟨i, hi, rfl⟩ := Array.mem_iff_getElem.1 hg
  have hgi : gs[i]? = some gs[i] := Array.getElem?_eq_getElem hi
  rcases I.idx hgi with rfl | ⟨h1, h2⟩ | ⟨p, hp, rfl⟩
  · rw [I.main] at hgi
    obtain rfl := Option.some.inj hgi
    exact awake_of (by rcases I.sit.status with h | h <;> simp [h.1])
  · exact awake_of ((I.old i _ h1 h2 hgi).status.elim .inl fun x => .inr (.inr x))
  · obtain ⟨g', hg', hs⟩ := I.work p hp
    rw [hgi] at hg'
    obtain h := Option.some.inj hg'
    rw [h]
    exact awake_of (hs.status I.S)

theorem InvT.runs_of (I : InvT C Fin Anch L t0 gs w t m st r q ph n a) {p : Nat} (hp : p < m) (h1 : st p ≠ .gone) (h2 : r p ≠ 0) : ∃ (i : Nat) (g : Goroutine), gs[i]? = some g ∧ g.status = .running := by
  obtain ⟨g, hg, hs⟩ := I.work p hp
  refine ⟨_, g, hg, ?_⟩
  generalize st p = s at hs h1
  generalize r p = x at hs h2
  generalize Deaf t (C.b0 + p) = δ at hs
  cases hs with
  | gone hq => exact absurd rfl h1
  | way _ _ _ hg => exact hg.running I.S
  | parks _ _ => exact absurd rfl h2
theorem exists_counted {st : Nat → MS} : ∀ {m : Nat}, 0 < countOf st m → ∃ p, p < m ∧ (st p).counted = 1
  | 0, h => absurd h (Nat.lt_irrefl 0)
  | m + 1, h => by
    have e : countOf st (m + 1) = countOf st m + (st m).counted := rfl
    rcases Nat.eq_zero_or_pos (countOf st m) with h0 | h0
    · refine ⟨m, Nat.lt_succ_self m, ?_⟩
      cases hs : st m <;> simp [hs, MS.counted] at e ⊢ <;> omega
    · obtain ⟨p, h1, h2⟩ := exists_counted h0
      exact ⟨p, by omega, h2⟩
/-- Somebody can always go on. -/
theorem InvT.some1 (I : InvT C Fin Anch L t0 gs w t m st r q ph n a) : ∃ (i : Nat) (g : Goroutine), gs[i]? = some g ∧ g.status = .running := by
  have hs0 := I.sit
  rcases hs0.status with ⟨h, _⟩ | ⟨_, hn⟩
  · exact ⟨0, a, I.main, h⟩
  · cases hs0 with
    | way _ _ => omega
    | @park x o l g₀ _ h =>
      have hm := I.all (l := (x, o) :: l) (.inr rfl)
      obtain ⟨f1, f2⟩ := I.fed x o l rfl hn
      have hx : x < m := by rw [hm]; exact I.agr.1
      exact I.runs_of hx (by intro e; rw [e] at f1; cases f1) f2
    | sem h =>
      obtain ⟨wt, sm, _, hb⟩ := I.bell
      have key : ∀ p, p < m → st p ≠ .gone → ∃ (i : Nat) (g : Goroutine), gs[i]? = some g ∧ g.status = .running := fun p hp h1 => I.runs_of hp h1 fun h2 => by
        have := I.idle p hp h1 h2
        cases this
      cases hb with
      | calm h1 _ => exact absurd rfl h1
      | waits _ h2 _ =>
        obtain ⟨p, hp, hc⟩ := exists_counted h2
        exact key p hp (by intro e; rw [e] at hc; cases hc)
      | last _ hp h3 _ => exact key _ hp (by intro e; rw [e] at h3; rcases h3 with h | h <;> cases h)
      | rings _ hp h3 _ => exact key _ hp (by rw [h3]; simp)
      | rung _ _ h3 => omega
end Go.Proofs.Ytdpagejckahkkaa.Net
