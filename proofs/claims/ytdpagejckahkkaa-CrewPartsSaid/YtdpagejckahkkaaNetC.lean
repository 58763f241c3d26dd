/- A chain of goroutines that hand numbers on: what is asked of each by itself, and what is held of the machine at every moment. -/
import Derived.Test.YtdpagejckahkkaaNetA
import Derived.Test.YtdpagejckahkkaaNetB
import Derived.Conc.Token
namespace Go.Proofs.Ytdpagejckahkkaa.Net
open Go Go.Conc
open Go.ConcN (sumTo upd upd_same upd_ne sumTo_congr sumTo_upd)

/-- w₁ is w but for the blocks of the first m channels and the count of draws. -/
structure AsideN (c : Nat → Nat) (m : Nat) (w w₁ : World) : Prop where
  tape : w₁.tape = w.tape
  os : w₁.os = w.os
  output : w₁.output = w.output
  size : w₁.heap.size = w.heap.size
  block : ∀ k, (∀ p, p < m → k ≠ c p) → w₁.heap[k]? = w.heap[k]?
theorem AsideN.refl (c : Nat → Nat) (m : Nat) (w : World) : AsideN c m w w := ⟨rfl, rfl, rfl, rfl, fun _ _ => rfl⟩
theorem AsideN.trans {c : Nat → Nat} {m : Nat} {a b d : World} (h : AsideN c m a b) (h' : AsideN c m b d) : AsideN c m a d :=
  ⟨h'.tape.trans h.tape, h'.os.trans h.os, h'.output.trans h.output, h'.size.trans h.size, fun k hk => (h'.block k hk).trans (h.block k hk)⟩
theorem AsideN.at (c : Nat → Nat) (m : Nat) (w : World) (d : Nat) : AsideN c m w (w.at d) := ⟨rfl, rfl, rfl, rfl, fun _ _ => rfl⟩
theorem AsideN.more {c : Nat → Nat} {m m' : Nat} (hm : m ≤ m') {w w₁ : World} (h : AsideN c m w w₁) : AsideN c m' w w₁ :=
  ⟨h.tape, h.os, h.output, h.size, fun k hk => h.block k fun p hp => hk p (by omega)⟩
theorem AsideN.setChan {c : Nat → Nat} {m p : Nat} (hp : p < m) (w : World) (cap : Nat) (buf : Array Value) (cl : Bool) (s r : Nat) (tm : Bool) : AsideN c m w (w.setChan (c p) cap buf cl s r tm) :=
  ⟨rfl, rfl, rfl, by simp [World.setChan], fun k hk => by simp [World.setChan, Ne.symm (hk p hp)]⟩

structure Cfg where
  P : Program
  S : World → Prop
  Still : Loc → Prop
  Shun : Loc → Prop
  B : Nat
  T : Nat
  c : Nat → Nat
  a : Nat → Int
  vs : List Int
  W : Nat → PS → Goroutine → Prop
  b0 : Nat

def zer : Value := .int .i64 0
def num (v : Int) : Value := .int .i64 v

section
variable (C : Cfg)
def AtGive (p : Nat) (v : Int) (Next : Goroutine → Prop) (g : Goroutine) : Prop :=
  g.status = .running ∧ ∃ g₂ z', (∀ w, C.S w → stepG C.P false g w = .comm g₂ #[scase (C.c p) (num v) z'] true .send w #[]) ∧ Next (Go.Conc.served g₂ undef)
def AtTake (p : Nat) (NextV : Int → Goroutine → Prop) (NextC : Goroutine → Prop) (g : Goroutine) : Prop :=
  g.status = .running ∧ (∀ w, C.S w → stepG C.P false g w = .comm (core g) #[rcase (C.c p) zer] true (.recv true) w #[]) ∧
    (∀ v, NextV v (Go.Conc.served (core g) (.tuple #[num v, .bool true]))) ∧ NextC (Go.Conc.served (core g) (.tuple #[zer, .bool false]))
def AtClose (p : Nat) (g : Goroutine) : Prop :=
  g.status = .running ∧ mayWake C.P g = true ∧ ∃ g₂ n, (∀ w s r, C.S w → w.heap[C.c p]? = some (.chan 0 #[] false s r false) → stepG C.P false g w = .go g₂ (w.setChan (C.c p) 0 #[] true s r false) (closeEvents (C.c p))) ∧ QuitsIn C.P n g₂
def StopW (p : Nat) : PS → Goroutine → Prop
  | .feed (v :: r) => AtGive C p v (C.W p (.feed r))
  | .feed [] => AtClose C p
  | .want => AtTake C (p - 1) (fun v => C.W p (.hold (plus C.a p v))) (C.W p .done)
  | .hold v => AtGive C p v (C.W p .want)
  | .done => AtClose C p
  | .gone => fun _ => False
def GoesW (p : Nat) (s : PS) (n : Nat) (g : Goroutine) : Prop := Goes C.P false (fun _ w₁ => C.S w₁) (DS C.Still C.B) (fun g₁ _ => StopW C p s g₁) n g default

/-- Where one of the chain is: gone; on its way; parked at its send; parked at its receive. -/
inductive Sit (p : Nat) : PS → Nat → Goroutine → Prop
  | gone {r : Nat} {g : Goroutine} : QuitsIn C.P r g → Sit p .gone r g
  | way {s : PS} {n : Nat} {g : Goroutine} : s ≠ .gone → GoesW C p s n g → Sit p s (n + 1) g
  | gives {s s' : PS} {v : Int} {g₂ : Goroutine} {z' : Value} : s.give = some (v, s') → C.W p s' (Go.Conc.served g₂ undef) → Sit p s 0 (parked g₂ #[scase (C.c p) (num v) z'] .send)
  | takes {g₀ : Goroutine} : StopW C p .want g₀ → Sit p .want 0 (parked (core g₀) #[rcase (C.c (p - 1)) zer] (.recv true))

/-- Goroutine 0's guarantee while m are at work. -/
def DM (m : Nat) (w w' : World) (es : Array Event) : Prop := (C.S w → C.S w') ∧ (∀ p, p < m → w'.heap[C.c p]? = w.heap[C.c p]?) ∧ ∀ e ∈ es, EvM C.Shun C.Still C.B e
def birth (p : Nat) : PS := if p = 0 then .feed C.vs else .want
def AtGoN (m : Nat) (Next : Goroutine → World → Prop) (g : Goroutine) (w : World) : Prop :=
  g.status = .running ∧ ∃ g' child es, stepG C.P true g w = .spawn g' child w es ∧ (∀ e ∈ es, EvM C.Shun C.Still C.B e) ∧ C.W m (birth C m) child ∧ C.S w ∧ w.heap[C.c m]? = some (.chan 0 #[] false 0 0 false) ∧ ∀ w₂, AsideN C.c (m + 1) w w₂ → Next g' w₂
def Spawns (Fin : Goroutine → World → Prop) : Nat → Goroutine → World → Prop
  | 0, g, w => Fin g w
  | k + 1, g, w => ∃ n, Goes C.P true (AsideN C.c (C.T - (k + 1))) (DM C (C.T - (k + 1))) (AtGoN C (C.T - (k + 1)) (Spawns Fin k)) n g w
def AtEat (Next : Goroutine → World → Prop) (g : Goroutine) (w : World) : Prop :=
  g.status = .running ∧ ∃ es, stepG C.P true g w = .comm (core g) #[rcase (C.c (C.T - 1)) zer] true (.recv true) w es ∧ (∀ e ∈ es, EvM C.Shun C.Still C.B e) ∧ ∀ w₂, AsideN C.c C.T w w₂ → Next (core g) w₂
def Eats (Fin : Goroutine → World → Prop) : List Int → Goroutine → World → Prop
  | [], g, w => ∃ n, Goes C.P true (AsideN C.c C.T) (DM C C.T) (AtEat C fun g₂ w₂ => Fin (Go.Conc.served g₂ (.tuple #[zer, .bool false])) w₂) n g w
  | v :: vs, g, w => ∃ n, Goes C.P true (AsideN C.c C.T) (DM C C.T) (AtEat C fun g₂ w₂ => Eats Fin vs (Go.Conc.served g₂ (.tuple #[num v, .bool true])) w₂) n g w
def StopE (Fin : Goroutine → World → Prop) : List Int → Goroutine → World → Prop
  | [] => AtEat C fun g₂ w₂ => Fin (Go.Conc.served g₂ (.tuple #[zer, .bool false])) w₂
  | v :: vs => AtEat C fun g₂ w₂ => Eats C Fin vs (Go.Conc.served g₂ (.tuple #[num v, .bool true])) w₂
theorem eats_iff (Fin : Goroutine → World → Prop) (l : List Int) (g : Goroutine) (w : World) : Eats C Fin l g w ↔ ∃ n, Goes C.P true (AsideN C.c C.T) (DM C C.T) (StopE C Fin l) n g w := by
  cases l <;> exact Iff.rfl

structure Cfg.Fine : Prop where
  inj : ∀ p q, C.c p = C.c q → p = q
  low : ∀ p, p < C.T → C.c p < C.B
  obj : ∀ p, C.Still (.obj (C.c p))
  stable : ∀ w w₁, AsideN C.c C.T w w₁ → C.S w → C.S w₁
  walk : ∀ p s g, p < C.T → s ≠ .gone → C.W p s g → ∃ n, GoesW C p s n g
  pos : 0 < C.b0
  posT : 0 < C.T
end

variable {C : Cfg}

theorem StopW.give {p : Nat} {s s' : PS} {v : Int} {g : Goroutine} (hg : s.give = some (v, s')) (h : StopW C p s g) : AtGive C p v (C.W p s') g := by
  cases s with
  | feed r => cases r <;> simp [PS.give] at hg; obtain ⟨rfl, rfl⟩ := hg; exact h
  | hold x => simp [PS.give] at hg; obtain ⟨rfl, rfl⟩ := hg; exact h
  | _ => simp [PS.give] at hg
theorem StopW.shut {p : Nat} {s : PS} {g : Goroutine} (hs : s.shuts) (h : StopW C p s g) : AtClose C p g := by
  cases s with
  | feed r => cases r with
    | nil => exact h
    | cons _ _ => exact hs.elim
  | done => exact h
  | _ => exact hs.elim
theorem StopW.running {p : Nat} {s : PS} {g : Goroutine} (h : StopW C p s g) : g.status = .running := by
  cases s with
  | feed r => cases r <;> exact h.1
  | gone => exact h.elim
  | _ => exact h.1
theorem PS.three (s : PS) : s = .gone ∨ s = .want ∨ s.shuts ∨ ∃ v s', s.give = some (v, s') := by
  cases s with
  | feed r => cases r with
    | nil => exact .inr (.inr (.inl trivial))
    | cons v r => exact .inr (.inr (.inr ⟨v, _, rfl⟩))
  | hold v => exact .inr (.inr (.inr ⟨v, _, rfl⟩))
  | done => exact .inr (.inr (.inl trivial))
  | want => exact .inr (.inl rfl)
  | gone => exact .inl rfl
theorem StopE.running {Fin : Goroutine → World → Prop} {l : List Int} {g : Goroutine} {w : World} (h : StopE C Fin l g w) : g.status = .running := by cases l <;> exact h.1
theorem StopE.comm {Fin : Goroutine → World → Prop} {l : List Int} {g : Goroutine} {w : World} (h : StopE C Fin l g w) :
    ∃ es, stepG C.P true g w = .comm (core g) #[rcase (C.c (C.T - 1)) zer] true (.recv true) w es ∧ ∀ e ∈ es, EvM C.Shun C.Still C.B e := by
  cases l <;> exact let ⟨_, es, h1, h2, _⟩ := h; ⟨es, h1, h2⟩
theorem StopE.again {Fin : Goroutine → World → Prop} {l : List Int} {g : Goroutine} {w : World} {cs : Array CommCase} {sh : CommShape} (h : StopE C Fin l g w) : StopE C Fin l { parked (core g) cs sh with status := .running } w := by
  have e : stepG C.P true { parked (core g) cs sh with status := .running } w = stepG C.P true g w := stepG_same rfl rfl rfl w
  cases l <;> exact let ⟨_, es, h1, h2, h3⟩ := h; ⟨rfl, es, by rw [e]; exact h1, h2, h3⟩
theorem StopW.again {p : Nat} {g : Goroutine} {cs : Array CommCase} {sh : CommShape} (h : StopW C p .want g) : StopW C p .want { parked (core g) cs sh with status := .running } := by
  obtain ⟨_, h1, h2, h3⟩ := h
  exact ⟨rfl, fun w hw => (stepG_same (h := g) rfl rfl rfl w).trans (h1 w hw), h2, h3⟩

theorem GoesW.running {p n : Nat} {s : PS} {g : Goroutine} {w : World} (hS : C.S w) (h : GoesW C p s n g) : g.status = .running :=
  Goes.running (fun _ _ => StopW.running) w hS h

theorem evC_W {Still : Loc → Prop} {B : Nat} {e : Event} (h : EvC Still B e) : EvW Still B e := by
  obtain ⟨a, rfl, hs, hb⟩ := h
  refine ⟨fun x hx => ?_, by simp, by simp, hb⟩
  simp only [MemAct.ofEvent, MemAct.touch?, Option.some.injEq] at hx
  subst hx
  exact ⟨rfl, hs⟩

theorem DM.fewer {m m' : Nat} (hm : m ≤ m') {w w' : World} {es : Array Event} (h : DM C m' w w' es) : DM C m w w' es := ⟨h.1, fun p hp => h.2.1 p (by omega), h.2.2⟩

/-- Where goroutine 0 is: starting the others; eating; parked at its receive. -/
inductive MSit (C : Cfg) (Fin : Goroutine → World → Prop) (m : Nat) : Nat → Option (List Int) → Nat → Goroutine → World → Prop
  | sp {k n : Nat} {g : Goroutine} {w : World} : m + (k + 1) = C.T → Goes C.P true (AsideN C.c m) (DM C m) (AtGoN C m (Spawns C (Eats C Fin (full C.a C.vs (C.T - 1))) k)) n g w → MSit C Fin m (k + 1) none (n + 1) g w
  | eat {l : List Int} {n : Nat} {g : Goroutine} {w : World} : m = C.T → Goes C.P true (AsideN C.c C.T) (DM C C.T) (StopE C Fin l) n g w → MSit C Fin m 0 (some l) (n + 1) g w
  | wait {l : List Int} {g₀ : Goroutine} {w : World} : m = C.T → (∀ w₁, AsideN C.c C.T w w₁ → StopE C Fin l g₀ w₁) → MSit C Fin m 0 (some l) 0 (parked (core g₀) #[rcase (C.c (C.T - 1)) zer] (.recv true)) w

def isGone : PS → Bool
  | .gone => true
  | _ => false
theorem isGone_iff {s : PS} : isGone s = true ↔ s = .gone := by cases s <;> simp [isGone]
theorem isGone_false {s : PS} (h : s ≠ .gone) : isGone s = false := by cases s <;> simp_all [isGone]

def Team (b0 m : Nat) (g : Nat) : Prop := ∃ p, p < m ∧ g = b0 + p
def Upto (b0 p : Nat) (g : Nat) : Prop := ∃ q, q ≤ p ∧ g = b0 + q

/-- What is held of all but goroutine 0. -/
structure Crew (C : Cfg) (q : Nat → Nat) (gs : Array Goroutine) (w : World) (t : Trace) (m : Nat) (st : Nat → PS) (r : Nat → Nat) : Prop where
  size : gs.size = C.b0 + m
  mT : m ≤ C.T
  old : ∀ i g, 0 < i → i < C.b0 → gs[i]? = some g → QuitsD C.P (q i) (Deaf t i) g
  above : ∀ j, gs.size ≤ j → Deaf t j = 0
  work : ∀ p, p < m → ∃ g, gs[C.b0 + p]? = some g ∧ Sit C p (st p) (r p) g
  fits : ∀ p, p < m → fits p (st p)
  chan : ∀ p, p < m → ∃ s r, w.heap[C.c p]? = some (.chan 0 #[] (isGone (st p)) s r false)
  link : ∀ p, p + 1 < m → (st (p + 1) = .done ∨ st (p + 1) = .gone) → st p = .gone
  meet : ∀ p, p + 1 < m → st (p + 1) = .want → r (p + 1) = 0 → st p ≠ .gone ∧ ¬ ((st p).give.isSome ∧ r p = 0)
  S : 0 < m → C.S w
  pt : PT C.Shun C.Still C.B (Team C.b0 m) (fun g => g = 0 ∨ Team C.b0 m g) t
  kn : ∀ p, p < m → (p = 0 ∨ st p = .done ∨ st p = .gone) → KnowsOf (Upto C.b0 p) (C.b0 + p) t
  sh : ∀ p, p < m → st p = .gone → ShutOf (Upto C.b0 p) (C.c p) t

variable {q : Nat → Nat} {gs : Array Goroutine} {w : World} {t : Trace} {m : Nat} {st : Nat → PS} {r : Nat → Nat}

theorem Crew.back (H : Crew C q gs w t m st r) : ∀ {p : Nat}, p < m → (st p = .done ∨ st p = .gone) → ∀ {x : Nat}, x < p → st x = .gone
  | p + 1, hp, h, x, hx => by
    have hz := H.link p hp h
    rcases Nat.lt_or_ge x p with hlt | hge
    · exact H.back (p := p) (by omega) (.inr hz) hlt
    · obtain rfl : x = p := by omega
      exact hz
/-- What was touched by one of the chain that is not gone is no business of those that know their sources shut. -/
theorem Crew.kn_app (H : Crew C q gs w t m st r) {u : Trace} (hu : ∀ op ∈ u, op.act.touch? = none ∨ op.g = 0 ∨ ∃ x, x < m ∧ op.g = C.b0 + x ∧ st x ≠ .gone) (hb : 0 < C.b0) {p : Nat} (hp : p < m) (h : p = 0 ∨ st p = .done ∨ st p = .gone) :
    KnowsOf (Upto C.b0 p) (C.b0 + p) (t ++ u) := by
  refine (H.kn p hp h).app fun op hop => ?_
  rcases hu op hop with h1 | h1 | ⟨x, hx, h1, h2⟩
  · exact .inl h1
  · exact .inr (.inr fun ⟨y, _, hy⟩ => by omega)
  · by_cases e : x = p
    · subst e; exact .inr (.inl h1)
    · refine .inr (.inr fun ⟨y, hy, hy'⟩ => ?_)
      obtain rfl : x = y := by omega
      rcases h with rfl | h
      · omega
      · exact h2 (H.back hp h (by omega))
theorem Crew.sh_app (H : Crew C q gs w t m st r) {u : Trace} (hu : ∀ op ∈ u, op.act.touch? = none ∨ op.g = 0 ∨ ∃ x, x < m ∧ op.g = C.b0 + x ∧ st x ≠ .gone) (hb : 0 < C.b0) {p : Nat} (hp : p < m) (h : st p = .gone) :
    ShutOf (Upto C.b0 p) (C.c p) (t ++ u) := by
  refine (H.sh p hp h).app fun op hop => ?_
  rcases hu op hop with h1 | h1 | ⟨x, hx, h1, h2⟩
  · exact .inl h1
  · exact .inr fun ⟨y, _, hy⟩ => by omega
  · refine .inr fun ⟨y, hy, hy'⟩ => ?_
    obtain rfl : x = y := by omega
    by_cases e : x = p
    · subst e; exact h2 h
    · exact h2 (H.back hp (.inr h) (by omega))

/-- Nobody but who finds its channel closed is let try again. -/
theorem Sit.woken {p n : Nat} {s : PS} {g x x' : Goroutine} {w' : World} (hS : C.S w) (h : Sit C p s n g) (h1 : s ≠ .gone → ∃ a b, w'.heap[C.c p]? = some (.chan 0 #[] false a b false))
    (h2 : s = .want → n = 0 → ∃ a b, w'.heap[C.c (p - 1)]? = some (.chan 0 #[] false a b false)) : woken C.P x x' w' g = g := by
  cases h with
  | gone hq => exact woken_quits hq
  | way _ hg => exact woken_running (hg.running hS)
  | gives hg _ => obtain ⟨a, b, hc⟩ := h1 (by rintro rfl; simp [PS.give] at hg); exact woken_send_open x x' hc
  | takes _ => obtain ⟨a, b, hc⟩ := h2 rfl rfl; exact woken_recv_open x x' hc
theorem Sit.status {p n : Nat} {s : PS} {g : Goroutine} (hS : C.S w) (h : Sit C p s n g) : g.status = .running ∨ g.status = .blocked ∨ g.status = .finished := by
  cases h with
  | gone hq => rcases hq.status with h | h <;> simp [h]
  | way _ hg => exact .inl (hg.running hS)
  | gives _ _ => exact .inr (.inl rfl)
  | takes _ => exact .inr (.inl rfl)
theorem MSit.status {Fin : Goroutine → World → Prop} {k n : Nat} {l : Option (List Int)} {g : Goroutine} (h : MSit C Fin m k l n g w) : (g.status = .running ∧ 0 < n) ∨ (g.status = .blocked ∧ n = 0) := by
  cases h with
  | sp _ hg => exact .inl ⟨hg.running (fun _ _ h => h.1) w (AsideN.refl _ _ w), by omega⟩
  | eat _ hg => exact .inl ⟨hg.running (fun _ _ => StopE.running) w (AsideN.refl _ _ w), by omega⟩
  | wait _ _ => exact .inr ⟨rfl, rfl⟩
theorem MSit.woken {Fin : Goroutine → World → Prop} {k n : Nat} {l : Option (List Int)} {g x x' : Goroutine} {w' : World} (h : MSit C Fin m k l n g w) (h2 : n = 0 → ∃ a b, w'.heap[C.c (C.T - 1)]? = some (.chan 0 #[] false a b false)) : woken C.P x x' w' g = g := by
  cases h with
  | sp _ hg => exact woken_running (hg.running (fun _ _ h => h.1) w (AsideN.refl _ _ w))
  | eat _ hg => exact woken_running (hg.running (fun _ _ => StopE.running) w (AsideN.refl _ _ w))
  | wait _ _ => obtain ⟨a, b, hc⟩ := h2 rfl; exact woken_recv_open x x' hc
theorem MSit.rely {Fin : Goroutine → World → Prop} {k n : Nat} {l : Option (List Int)} {g : Goroutine} {w' : World} (h : MSit C Fin m k l n g w) (hr : AsideN C.c m w w') : MSit C Fin m k l n g w' := by
  cases h with
  | sp e hg => exact .sp e (Goes.rely (R := AsideN C.c m) (fun _ _ _ h h' => AsideN.trans h h') hg hr)
  | eat e hg => exact .eat e (Goes.rely (R := AsideN C.c C.T) (fun _ _ _ h h' => AsideN.trans h h') hg (e ▸ hr))
  | wait e hs => exact .wait e fun w₁ h₁ => hs w₁ ((e ▸ hr).trans h₁)

/-- Who offers to receive, or to send, at channel number p. -/
theorem Sit.offers {p x n : Nat} {s : PS} {g : Goroutine} (hinj : ∀ p q, C.c p = C.c q → p = q) (hS : C.S w) (hf : Net.fits x s) (h : Sit C x s n g) (send : Bool) (hne : (send = true → x ≠ p) ∧ (send = false → x ≠ p + 1)) : offersAt g (C.c p) send = [] := by
  cases h with
  | gone hq => exact offersAt_of_not_blocked (by rcases hq.status with h | h <;> simp [h]) _ _
  | way _ hg => exact offersAt_of_not_blocked (by rw [hg.running hS]; simp) _ _
  | gives _ _ =>
    cases send with
    | false => exact offersAt_parked_send' _ _ _ _ _ _
    | true => rw [offersAt_parked_send, if_neg fun e => hne.1 rfl (hinj _ _ e)]
  | takes _ =>
    cases send with
    | true => exact offersAt_parked_recv' _ _ _ _ _
    | false =>
      have hx : 0 < x := by cases x with
        | zero => exact hf.elim
        | succ x => omega
      rw [offersAt_parked_recv, if_neg fun e => hne.2 rfl (by have := hinj _ _ e; omega)]
end Go.Proofs.Ytdpagejckahkkaa.Net
